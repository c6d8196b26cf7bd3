/- Contracts and lemmas for the statements of this seat, written for this claim; each theorem states its own conditions. -/
import Derived.Test.YtfkmophmiiehlaaLbTc1
import Derived.Test.YtfkmophmiiehlaaLbTa1
set_option linter.unusedVariables false
set_option linter.unusedSimpArgs false
namespace Go.Proofs.Ytfkmophmiiehlaa
open Go.RowKit
attribute [local go_sem] addUpon_value addUpon_skip addUpon_enter
theorem OwnBB.one {w : World} {B n cx : Nat} {A : Option Addr} {xs : List Bool} (hO : OwnB w B (.slice A n cx) xs) (hB : B ≤ w.heap.size) :
    OwnBB (w.alloc (.cells #[.slice A n cx] 115)) B (.slice (some ⟨w.heap.size, 0, none⟩) 1 1) [xs] := by
  refine ⟨[.slice A n cx], ?_, fun i h h' => ?_, fun i j h h' hij => ?_, fun i h => ?_⟩
  · have := World.ownsRow_lit (base := B) (e := 115) (size := 1) w #[.slice A n cx] 1 hB (by simp [maxLen]) (by simp)
    simpa using this
  · have hi : i = 0 := by simp at h; omega
    subst hi
    exact hO.below (below_al (Below.refl _ _))
  · simp at h h'; omega
  · have hi : i = 0 := by simp at h; omega
    subst hi
    cases e : (Value.slice A n cx).ownBlock with
    | none => exact .inl e
    | some k => right; rw [List.getElem_cons_zero, e]; intro e2; have h8 := (hO.lt k e).2; have e3 : some k = some w.heap.size := e2; injection e3 with e3; omega
/-- a step back: from where a column leads to one of some words -/
def bstep (far nx : List Bool) (k : Col) : List Bool := if far.getD k.e.toNat false = true then nx.set k.w.toNat true else nx
def bgo (S : Nat) (cols : List Col) (far : List Bool) : List Bool := cols.foldl (bstep far) (List.replicate S false)
def farAt (S : Nat) (cols : List Col) : Nat → List Bool
  | 0 => List.replicate S true
  | i + 1 => bgo S cols (farAt S cols i)
def farL (S : Nat) (cols : List Col) (n : Nat) : List (List Bool) := (List.range (n + 1)).map (farAt S cols)
theorem bstep_len (far nx : List Bool) (k : Col) : (bstep far nx k).length = nx.length := by unfold bstep; split <;> simp
theorem bgo_len (S : Nat) (cols : List Col) (far : List Bool) : (bgo S cols far).length = S := by
  unfold bgo
  suffices ∀ nx : List Bool, (cols.foldl (bstep far) nx).length = nx.length by rw [this]; simp
  intro nx
  induction cols generalizing nx with
  | nil => rfl
  | cons k l ih => rw [List.foldl_cons, ih, bstep_len]
theorem farAt_len (S : Nat) (cols : List Col) : ∀ i, (farAt S cols i).length = S
  | 0 => by simp [farAt]
  | _ + 1 => bgo_len ..
theorem farL_len (S : Nat) (cols : List Col) (n : Nat) : (farL S cols n).length = n + 1 := by simp [farL]
theorem farL_get (S : Nat) (cols : List Col) (n i : Nat) (h : i < (farL S cols n).length) : (farL S cols n)[i] = farAt S cols i := by simp [farL]
theorem farL_succ (S : Nat) (cols : List Col) (n : Nat) : farL S cols (n + 1) = farL S cols n ++ [farAt S cols (n + 1)] := by simp [farL, List.range_succ]
theorem bgo_take (S : Nat) (cols : List Col) (far : List Bool) (j : Nat) (hj : j < cols.length) : bgo S (cols.take (j + 1)) far = bstep far (bgo S (cols.take j) far) cols[j] := by
  unfold bgo; rw [List.take_succ_eq_append_getElem hj, List.foldl_append]; rfl
theorem bstep_eq (far nx : List Bool) (k : Col) (h : k.e.toNat < far.length) : bstep far nx k = if far[k.e.toNat] = true then nx.set k.w.toNat true else nx := by
  unfold bstep; simp [h]
set_option maxRecDepth 100000 in
set_option maxHeartbeats 1000000 in
theorem l10Far_c (cols : List Col) (Ac : Option Addr) (kc S n : Nat) (w : World) (hS1 : 1 ≤ S) (hS2 : S ≤ 100000) (hC : Codes S cols) (hcl : cols.length ≤ 1000000) (hn : n ≤ 100) (hR : RowsC w Ac (crows cols)) :
    Calls Try.prog 141 #[.slice Ac cols.length kc, .int .i64 S, .int .i64 n] w fun e w' => ∃ v, e = .returned v ∧ OwnBB w' w.heap.size v (farL S cols n) ∧ Below w.heap.size w w' := by
  have HR := Lib.hid hR
  have HC := Lib.hid hC
  have hm := fun w => make_b S (by omega) w
  clear hR hC
  go_enter Try.func141, Try.ntmps141
  go_wp2_with fail
  go_loopw [8] (fun iv wr => ∃ q : Nat, q ≤ S ∧ iv = .int .i64 q ∧ Hid (OwnB wr w.heap.size (.slice (some ⟨w.heap.size, 0, none⟩) S S) (repB S q)) ∧ Hid (Below w.heap.size w wr)) (fun i _ => S - (intOf i).toNat)
  case atStart => exact ⟨0, by omega, rfl, Lib.hid (by simpa [repB] using OwnB.made w w.heap.size S (Nat.le_refl _) (by omega)), Lib.hid (by (repeat (first | (with_reducible exact Below.refl _ _) | (with_reducible assumption) | (with_reducible refine below_al ?_) | (with_reducible refine below_dr ?_) | (with_reducible refine below_drN ?_) | (with_reducible refine below_set ?_ (by first | exact Nat.le_refl _ | (dsimp only; omega) | omega)) | (with_reducible refine below_tr (by with_reducible assumption) ?_))))⟩
  case round =>
    obtain ⟨q, hq, rfl, HOq, HBq⟩ := hrel
    by_cases hqS : q < S
    · obtain ⟨g4, hg4, _, gl, n1, n2⟩ := HOq.out.at_ q (by rw [repB_len hq]; exact hqS)
      injection hg4 with hg4; injection hg4 with hg4 _; subst hg4
      have HF := Lib.hid ((HOq.out.set q true).1)
      rw [repB_set hqS] at HF
      generalize (repB S q)[q]'_ = z at n1
      clear hm
      go_wp2
      go_roundw
      case rel => exact ⟨q + 1, by omega, by go_num, HF, Lib.hid (HBq.out.setCell (Nat.le_refl _) _)⟩
      case measure => simp [intOf]; omega
    · obtain rfl : q = S := by omega
      rw [repB_all] at HOq
      have HO1 := Lib.hid (OwnBB.one HOq.out HBq.out.size)
      go_wp2_with fail
      clear hm
      go_loopw [9, 10] (fun v iv wr => ∃ i : Nat, i ≤ n ∧ iv = .int .i64 i ∧ Hid (OwnBB wr w.heap.size v (farL q cols i)) ∧ Hid (Below w.heap.size w wr)) (fun _ i _ => n - (intOf i).toNat)
      case atStart => exact ⟨0, by omega, rfl, Lib.hid (by simpa [farL, farAt] using HO1.out), Lib.hid (by have h3 := HBq.out; (repeat (first | (with_reducible exact Below.refl _ _) | (with_reducible assumption) | (with_reducible refine below_al ?_) | (with_reducible refine below_dr ?_) | (with_reducible refine below_drN ?_) | (with_reducible refine below_set ?_ (by first | exact Nat.le_refl _ | (dsimp only; omega) | omega)) | (with_reducible refine below_tr (by with_reducible assumption) ?_))))⟩
      case round =>
        obtain ⟨i, hi, rfl, HOi, HBi⟩ := hrel
        obtain ⟨wj, rfl⟩ : ∃ wj, wj = wr := ⟨wr, rfl⟩
        obtain ⟨An, kn, rfl, hrd⟩ := HOi.out.rows
        by_cases hin : i < n
        · have hm := fun w => make_b q (by omega) w
          obtain ⟨bi, offi, Ai, ki, rfl, hli, ci, ri⟩ := hrd i (by rw [farL_len]; omega)
          have HFa := Lib.hid (show farAt q cols (i + 1) = bgo q cols (farAt q cols i) from rfl)
          rw [farL_get] at ci ri
          have hlen := farAt_len q cols i
          generalize farAt q cols i = far at *
          have HRi := Lib.hid ri
          have HLn := Lib.hid hlen
          have HL1 := Lib.hid (farL_len q cols i)
          rw [hlen] at ci
          have CI := Lib.hid (keepC ci)
          have HRc := Lib.hid (HR.out.below HBi.out)
          clear hlen ri hrd
          obtain ⟨nl, hnl⟩ : ∃ nl, (farL q cols i).length = nl := ⟨_, rfl⟩
          have HNl := Lib.hid hnl
          have hil : i < nl := by rw [← hnl, farL_len]; omega
          rw [hnl] at HOi ⊢
          clear hnl ci
          go_wp2_with fail
          clear hm
          go_loopw [12] (fun iv wr => ∃ k : Nat, k ≤ cols.length ∧ iv = .int .i64 k ∧ Hid (OwnB wr wj.heap.size (.slice (some ⟨wj.heap.size, 0, none⟩) q q) (bgo q (cols.take k) far)) ∧ Hid (Below wj.heap.size wj wr)) (fun i _ => cols.length - (intOf i).toNat)
          case atStart => exact ⟨0, by omega, rfl, Lib.hid (OwnB.made wj _ q (Nat.le_refl _) (by omega)), Lib.hid (by (repeat (first | (with_reducible exact Below.refl _ _) | (with_reducible assumption) | (with_reducible refine below_al ?_) | (with_reducible refine below_dr ?_) | (with_reducible refine below_drN ?_) | (with_reducible refine below_set ?_ (by first | exact Nat.le_refl _ | (dsimp only; omega) | omega)) | (with_reducible refine below_tr (by with_reducible assumption) ?_))))⟩
          case round =>
            obtain ⟨k, hk, rfl, HOk, HBk⟩ := hrel
            by_cases hkl : k < cols.length
            · obtain ⟨b2, off2, r, o, cx2, rfl, hb2, y0, hr, y1, y2, y3, y4⟩ := crows_at (HRc.out.below HBk.out) k hkl
              obtain ⟨⟨w0, w1'⟩, e0, e1⟩ := HC.out _ (List.getElem_mem hkl)
              have HTg := Lib.hid (bgo_take q cols far k hkl)
              have hnl := bgo_len q (cols.take k) far
              generalize bgo q (cols.take k) far = nx at *
              generalize cols[k] = col at *
              have hz1 : col.e.toNat < far.length := by have := HLn.out; omega
              have hz2 : col.w.toNat < nx.length := by omega
              have HTg2 := Lib.hid (bstep_eq far nx col hz1)
              obtain ⟨wi, hwi⟩ := Int.eq_ofNat_of_zero_le w0
              obtain ⟨ei, hei⟩ := Int.eq_ofNat_of_zero_le e0
              obtain ⟨b3, off3, rfl, hlt3, n0⟩ := HRi.out _ hz1
              obtain ⟨g4, hg4, _, gl, n1, n2⟩ := HOk.out.at_ _ hz2
              injection hg4 with hg4; injection hg4 with hg4 _; subst hg4
              simp only [hwi, hei, Int.toNat_natCast] at n0 n1 n2 hz1 hz2 HTg2
              rw [hwi] at y2
              rw [hei] at y3
              have hlw : wi < q := by omega
              have hle : ei < q := by omega
              replace n0 := (HBk.out.cell (p := ⟨b3, off3 + ei, none⟩) hlt3).trans n0
              have HTG := Lib.hid (HTg.out.trans HTg2.out)
              generalize nx[wi]'_ = bn at n1
              generalize far[ei]'_ = bw at *
              have ci := CI.out _ HBk.out
              have X0 := keepC ci
              have Y0 := keepC y0
              have Y2 := keepC y2
              have Y3 := keepC y3
              have N0 := keepC n0
              have N1 := keepC n1
              have N2 := fun wz (hz : Below wr.heap.size wr wz) => (hz.frozen (p := ⟨wj.heap.size, wi, none⟩) gl).trans n2
              clear hwi hei hz1 hz2 HTg HTg2 ci y0 y1 y2 y3 y4 n0 n1 n2 hnl
              cases bw
              all_goals
                simp only [Bool.false_eq_true, if_false, if_true] at HTG
                go_wp2_with fail
                refine wp_region_add (fun w' => Below (wr).heap.size (wr) w') (by kernel_rfl) (by kernel_rfl) ((Below.refl _ _).drew) ?_
                repeat (first
                  | (refine add_skip rfl (fun K' hK' => ?_); go_simp; refine hK' _ ?_; clear hK' K')
                  | (refine add_do (v := ?_) rfl (fun w1 hb => ?_) (fun K' hK' => ?_); rotate_left
                     · go_simp
                       first
                       | (with_reducible exact rfl)
                       | (with_reducible exact ⟨rfl, hb⟩)
                       | exact rfl
                       | exact ⟨rfl, hb⟩
                     go_simp; refine hK' _ ?_; clear hK' K'))
                refine add_nil ?_
                intro wa hba
                have ya0 := Y0 _ hba
                have ya2 := Y2 _ hba
                have na1 := N1 _ hba
                have na2 := N2 _ hba
                have HOa := Lib.hid (HOk.out.below hba)
                have HBa := Lib.hid (HBk.out.trans (hba.mono HBk.out.size))
                clear hba X0 Y0 Y2 Y3 N0 N1 N2
                go_wp2_with fail
                go_roundw
                case rel => first | exact ⟨k + 1, by omega, by go_num, Lib.hid (by rw [HTG.out]; exact HOa.out), HBa⟩ | exact ⟨k + 1, by omega, by go_num, Lib.hid (by rw [HTG.out]; exact (HOa.out.set wi true).1), Lib.hid (HBa.out.setCell (Nat.le_refl _) _)⟩
                case measure => simp [intOf]; omega
            · obtain rfl : k = cols.length := by omega
              rw [List.take_length] at HOk
              go_wp2_with (at_builtin; refine Hold.of ?_)
              refine Hold.to ?_
              refine wpl_app_rowB (W0 := wj) rfl (.tmp 59) (.tmp 61) rfl w.heap.size _ _ _ (bgo q cols far) rfl HOi.out (by have h3 := HBk.out; (repeat (first | (with_reducible exact Below.refl _ _) | (with_reducible assumption) | (with_reducible refine below_al ?_) | (with_reducible refine below_dr ?_) | (with_reducible refine below_drN ?_) | (with_reducible refine below_set ?_ (by first | exact Nat.le_refl _ | (dsimp only; omega) | omega)) | (with_reducible refine below_tr (by with_reducible assumption) ?_)))) (HOk.out.below (below_al (Below.refl _ _))) wr.heap.size 0 rfl (cell_alloc_at _ _ _ _ _ rfl) (by rw [farL_len]; omega) HBi.out.size (fun v' w' h1 h2 h3 => ?_)
              have hb : Below w.heap.size w w' := Below.grown (below_al (HBi.out.trans (HBk.out.mono HBi.out.size))) h2 (by have := HBi.out.size; have := HBk.out.size; simp; omega) h3
              rw [← HFa.out, ← farL_succ] at h1
              have HFin := Lib.hid (And.intro h1 hb)
              clear h1 h2 h3 hb
              go_wp2_with fail
              go_roundw
              case rel => exact ⟨i + 1, by omega, by go_num, Lib.hid HFin.out.1, Lib.hid HFin.out.2⟩
              case measure => simp [intOf]; omega
        · obtain rfl : i = n := by omega
          clear hrd
          go_wp2_with fail
          go_ret
          exact ⟨_, rfl, HOi.out, HBi.out⟩

end Go.Proofs.Ytfkmophmiiehlaa
