/- Contracts and lemmas for the statements of this seat, written for this claim; each theorem states its own conditions. -/
import Derived.Deep.RegionHeld3
import Derived.Test.YtkgnejhflnekaaaGreatNgQ6
import Derived.Test.YtkgnejhflnekaaaGreatNgQ4
import Derived.Test.YtkgnejhflnekaaaGreatNgQ3
set_option linter.unusedVariables false
set_option linter.unusedSimpArgs false
namespace Go.Proofs.YtkgnejhflnekaaaGreat
open Go.RowKit
attribute [local go_sem] addUpon_value addUpon_skip addUpon_enter
theorem metOne_keep {s : Met} (j : Int) {x : Nat} (h : s.met.getD x false = true) : (metOne s j).met.getD x false = true := by
  unfold metOne
  split
  · exact h
  · show (s.met.set j.toNat true).getD x false = true
    by_cases e : j.toNat = x
    · subst e
      refine getB_self ?_
      by_cases hx : j.toNat < s.met.length
      · exact hx
      · simp [hx] at h
    · rw [getB_ne e]; exact h
theorem metRow_keep (row : List Int) {s : Met} {x : Nat} (h : s.met.getD x false = true) (m : Nat) : (metRow row s m).met.getD x false = true := by
  unfold metRow
  generalize row.take m = l
  induction l generalizing s with
  | nil => exact h
  | cons y l ih => exact ih (metOne_keep y h)
theorem metTo_keep {L : List (List Int)} {i : Int} (hi : i.toNat < L.length) : ∀ k, (metTo L i k).met.getD i.toNat false = true
  | 0 => getB_self (by simpa using hi)
  | k + 1 => metRow_keep _ (metTo_keep hi k) 4
theorem metV_self {L : List (List Int)} {i : Nat} (hi : i < L.length) : (metV L (i : Int)).getD i false = true := metTo_keep (i := (i : Int)) (by simpa using hi) _
theorem pput_len (l : List P22) (x : P22) : (pput l x).length ≤ l.length + 1 := by unfold pput; split <;> simp
theorem QInv.pos {N a : Nat} {L : List (List Int)} {T : List Bool} {list : List P22} (h : QInv N L T a list) {k : Nat} (hk : k < N) (ht : T.getD k false = true) : 0 < list.length :=
  List.length_pos_of_mem (h.bs k hk ht).1
theorem sorted_uniq : ∀ {xs ys : List P22}, xs.Perm ys → xs.Pairwise (fun x y => ltP y x = false) → ys.Pairwise (fun x y => ltP y x = false) → xs = ys
  | xs, ys, hp, h1, h2 => hp.eq_of_pairwise (fun a b _ _ h h' => ltP_anti _ _ h' h) h1 h2
set_option maxRecDepth 100000 in
set_option maxHeartbeats 4000000 in
theorem implPairsGrown_c (c : Int) (ts : List T4) (A : Option Addr) (cx : Nat) (L : List (List Int)) (B : Option Addr) (cr : Nat) (i : Int) (w : World) (hT : TileCells w A ts) (hl : ts.length ≤ 1000000000) (hR : RowsC w B L) (hn : L.length ≤ 1000000000) (hS : Short 1000000000 L) :
    Calls Tryz.prog 32 #[.agg #[.int .i64 c, .slice A ts.length cx], .slice B L.length cr, .int .i64 i] w (RetIIC3 w (pgV c ts L i) (tgCode c ts L i)) := by
  have HC := Lib.hid (fun (wq : World) (hq : Below w.heap.size w wq) => stepsCode_c c ts A cx L B cr i 0 0 wq (hT.below hq) hl (hR.below hq) hn hS)
  have HR := Lib.hid hR
  have HV : Hid (tgCode c ts L i = codeB (isSetB c ts) (stepB ts.length L i 0 0)) := rfl
  have HV1 : Hid (pgV c ts L i = if tgCode c ts L i = 0 then prows (prV L (metV L i)) else []) := rfl
  clear hT hR
  by_cases h0 : codeB (isSetB c ts) (stepB ts.length L i 0 0) = 0
  · obtain ⟨hs, hst⟩ := codeB_zero h0
    obtain ⟨hB, ⟨i0, i1⟩, -⟩ := stepB_parts hst
    have h16 := (isSetB_small hs).2
    obtain ⟨im, rfl⟩ := Int.eq_ofNat_of_zero_le i0
    have HT := Lib.hid (fun (wq : World) (hq : Below w.heap.size w wq) => tilesGrown_c L B cr im ts.length wq (HR.out.below hq) hB (by omega) h16)
    have hL16 : L.length ≤ 16 := by rw [hB.1]; omega
    have hBL : Blocks L.length L := by have := hB; rw [← hB.1] at this; exact this
    have HB := Lib.hid hBL
    rw [h0] at HV HC
    have hc0 := HV.out
    have HF1 : Hid (pgV c ts L im = prows (prV L (metV L im))) := by rw [Hid, HV1.out, if_pos hc0]
    rw [hc0]
    have himL : im < L.length := by rw [hB.1]; omega
    have hmv := metV_self (L := L) (i := im) himL
    clear hs hst hB hBL i0 i1 h0 hc0 HV HV1 hS
    generalize metV L im = met at *
    have hmm := @run_makeMap Tryz.prog
    go_enter Tryz.func32, Tryz.ntmps32
    go_wp2_with fail
    refine (HC.out _ (by (repeat (first | (with_reducible exact Below.refl _ _) | (with_reducible assumption) | (with_reducible refine below_al ?_) | (with_reducible refine below_dr ?_) | (with_reducible refine below_drN ?_) | (with_reducible refine below_set ?_ (by first | exact Nat.le_refl _ | (dsimp only; omega) | omega)) | (with_reducible refine below_tr (by with_reducible assumption) ?_))))).mono ?_
    rintro e w1 ⟨rfl, hb1⟩
    have Hw1 : Hid (Below w.heap.size w w1) := by (show Below _ _ _); (repeat (first | (with_reducible exact Below.refl _ _) | (with_reducible assumption) | (with_reducible refine below_al ?_) | (with_reducible refine below_dr ?_) | (with_reducible refine below_drN ?_) | (with_reducible refine below_set ?_ (by first | exact Nat.le_refl _ | (dsimp only; omega) | omega)) | (with_reducible refine below_tr (by with_reducible assumption) ?_)))
    clear hb1
    go_wp2_with fail
    obtain ⟨wt, hwt⟩ : ∃ wt, wt = ((((w1.alloc (.map #[] 0)).alloc (.cells #[] 35)).alloc (.cells #[.map (some w1.heap.size)] 112)).alloc (.cells #[.slice (some ⟨w1.heap.size + 1, 0, none⟩) 0 0] 29)) := ⟨_, rfl⟩
    have Hsz : Hid (wt.heap.size = w1.heap.size + 4) := by rw [hwt]; simp [Hid]
    have HbP : Hid (MapP wt w1.heap.size []) := by rw [hwt]; exact ⟨#[], 0, ((below_al (below_al (below_al (Below.refl (w1.alloc (.map #[] 0)).heap.size (w1.alloc (.map #[] 0)))))).block _ (by simp)).trans (heap_alloc_new _ _), rfl, by simp⟩
    have HbM : Hid (Blk wt (w1.heap.size + 2) [.map (some w1.heap.size)] 112) := by rw [hwt]; exact Blk.alloc (by have := Blk.newA ((w1.alloc (.map #[] 0)).alloc (.cells #[] 35)) #[.map (some w1.heap.size)] 112; simpa using this) _
    have HbO : Hid (Blk wt (w1.heap.size + 3) [.slice (some ⟨w1.heap.size + 1, 0, none⟩) 0 0] 29) := by
      have e : (((w1.alloc (.map #[] 0)).alloc (.cells #[] 35)).alloc (.cells #[.map (some w1.heap.size)] 112)).heap.size = w1.heap.size + 3 := by simp
      rw [hwt, ← e]
      exact Blk.newA _ _ _
    have HO0 : Hid (OwnIX wt w.heap.size (fun k => k = w1.heap.size ∨ k = w1.heap.size + 2 ∨ k = w1.heap.size + 3) (.slice (some ⟨w1.heap.size + 1, 0, none⟩) 0 0) (prows [])) := by
      rw [hwt]
      exact (OwnIX.empty (by simp) (by have := Hw1.out.size; simp; omega) (by omega)).below (below_al (below_al (Below.refl _ _)))
    have Hwt : Hid (Below w.heap.size w wt) := by rw [hwt]; exact below_al (below_al (below_al (below_al Hw1.out)))
    have HS1 : Hid (w.heap.size ≤ w1.heap.size) := Hw1.out.size
    rw [← hwt]
    clear hwt
    generalize w1.heap.size = S at *
    refine (HT.out _ Hwt.out).mono ?_
    rintro e w2 ⟨b, rfl, hbb, hBm, hml, hb2⟩
    have HQ0 : Hid (QSt w w2 S (S + 2) (S + 3) b met (.slice (some ⟨S + 1, 0, none⟩) 0 0) []) := by
      have hs := Hsz.out
      have hO : OwnIX wt w.heap.size (fun k => k = S ∨ k = S + 2 ∨ k = S + 3 ∨ k = b) (.slice (some ⟨S + 1, 0, none⟩) 0 0) (prows []) := HO0.out.less fun k hk h => by
        rcases h with h | h | h | h
        · exact .inl h
        · exact .inr (.inl h)
        · exact .inr (.inr h)
        · omega
      exact ⟨HbP.out.same (hb2.block _ HbP.out.lt), HbM.out.under hb2, HbO.out.under hb2, hBm, hO.below hb2, Hwt.out.trans (hb2.mono Hwt.out.size), HS1.out, by omega, by omega, by omega⟩
    have HML := Lib.hid hml
    have HMV := Lib.hid hmv
    clear hBm hml hbb hb2 Hsz HbP HbM HbO HO0 hmv
    go_wp2_with fail
    go_loopw [31] (fun x wr => ∃ k v list, k ≤ L.length ∧ x = .int .i64 (k : Nat) ∧ Hid (QSt w wr S (S + 2) (S + 3) b met v list) ∧ Hid (QBase L.length L met k list)) (fun x _ => L.length - (intOf x).toNat)
    case atStart => exact ⟨0, _, _, by omega, rfl, HQ0, QBase.start _ _ _⟩
    case round =>
      obtain ⟨k, v, list, hk, rfl, HQ, HI⟩ := hrel
      by_cases hkL : k < L.length
      · have hkm : k < met.length := by rw [HML.out]; exact hkL
        have y0 := HQ.out.tbl.bool k hkm
        have hg : met.getD k false = met[k] := by simp [hkm]
        cases hmk : met[k]
        · have HI2 := Lib.hid (HI.out.skip (by rw [hg, hmk]))
          rw [hmk] at y0
          clear hg hmk
          go_wp2_with fail
          go_roundw
          case rel => exact ⟨k + 1, v, list, by omega, by go_num, HQ, HI2⟩
          case measure => simp [intOf]; omega
        · have HI2 := Lib.hid (HI.out.next HB.out hkL (by rw [hg, hmk]))
          have HLN : Hid (list.length ≤ 256) := Nat.le_trans HI.out.len (sq16 hL16)
          rw [hmk] at y0
          clear hg hmk
          obtain ⟨bb, off, b1, o1, cb, rfl, hlt, hlt1, r0, n0, n1, n2, n3⟩ := blk_row (HR.out.below HQ.out.sub) HB.out hkL
          have R0 := keepC r0
          have N0 := keepC n0
          have N1 := keepC n1
          have Nx := Lib.hid (And.intro r0 (And.intro n2 (And.intro n3 (And.intro hlt hlt1))))
          clear r0 n0 n1 n2 n3
          go_wp2_with fail
          refine wp_region_add_tail 13 (fun w' => Below (wr).heap.size (wr) w') (by kernel_rfl) (by kernel_rfl) ((Below.refl _ _).drew) ?_
          simp only [List.take_succ_cons, List.take_zero, List.drop_succ_cons, List.drop_zero]
          repeat (first
            | (refine add_skip rfl (fun K' hK' => ?_); go_simp; refine hK' _ ?_; clear hK' K')
            | (refine add_do (v := ?_) rfl (fun w1 hb => ?_) (fun K' hK' => ?_); rotate_left
               · go_simp
                 first
                 | (with_reducible exact rfl)
                 | (with_reducible exact ⟨rfl, hb⟩)
                 | exact rfl
                 | exact ⟨rfl, hb⟩
               go_simp; refine hK' _ ?_; clear hK' K'))
          refine add_nil ?_
          intro wa hba
          clear y0
          go_wp2_with fail
          refine (put_c w S (S + 2) (S + 3) b met v list (pb1 L k) wa (HQ.out.below hba) (Nat.le_trans HLN.out (by omega)) _ _ rfl rfl).mono ?_
          rintro e w3 ⟨rfl, v3, HQ3⟩
          replace HQ3 := Lib.hid HQ3
          clear hba R0 N0 N1 Nx
          obtain ⟨bb, off, b1, o1, cb, e5, hlt, hlt1, r0, n0, n1, n2, n3⟩ := blk_row (HR.out.below HQ3.out.sub) HB.out hkL
          injection e5 with e5
          injection e5 with e5 e6
          subst e5 e6
          have R0 := keepC r0
          have N2 := keepC n2
          have N3 := keepC n3
          clear r0 n0 n1 n2 n3
          go_wp2_with fail
          refine wp_region_add_tail 13 (fun w' => Below (w3).heap.size (w3) w') (by kernel_rfl) (by kernel_rfl) ((Below.refl _ _).drew) ?_
          simp only [List.take_succ_cons, List.take_zero, List.drop_succ_cons, List.drop_zero]
          repeat (first
            | (refine add_skip rfl (fun K' hK' => ?_); go_simp; refine hK' _ ?_; clear hK' K')
            | (refine add_do (v := ?_) rfl (fun w1 hb => ?_) (fun K' hK' => ?_); rotate_left
               · go_simp
                 first
                 | (with_reducible exact rfl)
                 | (with_reducible exact ⟨rfl, hb⟩)
                 | exact rfl
                 | exact ⟨rfl, hb⟩
               go_simp; refine hK' _ ?_; clear hK' K'))
          refine add_nil ?_
          intro wa hba
          go_wp2_with fail
          refine (put_c w S (S + 2) (S + 3) b met v3 (pput list (pb1 L k)) (pb2 L k) wa (HQ3.out.below hba) (by have := pput_len list (pb1 L k); have := HLN.out; omega) _ _ rfl rfl).mono ?_
          rintro e w4 ⟨rfl, v4, HQ4⟩
          replace HQ4 := Lib.hid HQ4
          clear hba R0 N2 N3
          go_wp2_with fail
          go_roundw
          case rel => exact ⟨k + 1, v4, _, by omega, by go_num, HQ4, HI2⟩
          case measure => simp [intOf]; omega
      · obtain rfl : k = L.length := by omega
        have HI2 : Hid (QInv L.length L met 0 list) := { toQBase := HI.out, le := Nat.zero_le _, cl := fun b h hb => by omega }
        clear HQ0
        go_wp2_with fail
        obtain ⟨w0, rfl⟩ : ∃ w0, w0 = wr := ⟨wr, rfl⟩
        go_loopw [14] (fun x wr => ∃ a v list, x = .int .i64 (a : Nat) ∧ Hid (QSt w wr S (S + 2) (S + 3) b met v list) ∧ Hid (QInv L.length L met a list)) (fun x _ => 1000 - (intOf x).toNat)
        case atStart => exact ⟨0, _, _, rfl, HQ, HI2⟩
        case round =>
          clear HQ HI HI2
          obtain ⟨a, v, list, rfl, HQ, HI⟩ := hrel
          have HLN : Hid (list.length ≤ 256) := Nat.le_trans HI.out.len (sq16 hL16)
          have hln := HLN.out
          have x0 := HQ.out.bxO.cell 0 (by simp)
          simp only [List.getElem_cons_zero] at x0
          obtain ⟨Av, cv, rfl, hRv⟩ := HQ.out.own.shape
          obtain ⟨ll, hll⟩ : ∃ ll, ll = (prows list).length := ⟨_, rfl⟩
          have hle : ll = list.length := by rw [hll, prows_length]
          by_cases ha : a < list.length
          · obtain ⟨bb, off, b1, o1, cb, rfl, hlt, hlt1, r0, n0, n1⟩ := pr_row hRv ha
            obtain ⟨⟨hp, hq⟩, -⟩ := HI.out.ok _ (List.getElem_mem ha)
            have HI2 := Lib.hid (HI.out.next HB.out ha)
            have HN : Hid (∀ x ∈ [pn1 L list[a], pn2 L list[a]], x = x) := fun _ _ => rfl
            obtain ⟨x, hx⟩ : ∃ x, x = list[a] := ⟨_, rfl⟩
            rw [← hx] at n0 n1 hp hq HI2 HN
            clear hx
            obtain ⟨p, q⟩ := x
            dsimp only at n0 n1 hp hq
            obtain ⟨b2, f2, b3, f3, c3, rfl, gt2, gt3, s0, p0, p1, p2, p3⟩ := blk_row HR.out HB.out hp
            obtain ⟨b4, f4, b5, f5, c5, e6, gt4, gt5, t0, q0, q1, q2, q3⟩ := blk_row HR.out HB.out hq
            injection e6 with e6
            injection e6 with e6 e7
            subst e6 e7
            have halt : a < ll := by omega
            have hb9 : a < 1000 := by omega
            have hsz := HQ.out.sub.size
            have gt2' : b2 < wr.heap.size := Nat.lt_of_lt_of_le gt2 hsz
            have gt3' : b3 < wr.heap.size := Nat.lt_of_lt_of_le gt3 hsz
            have gt5' : b5 < wr.heap.size := Nat.lt_of_lt_of_le gt5 hsz
            have X0 := keepC x0
            have R0 := keepC r0
            have N0 := keepC n0
            have N1 := keepC n1
            have S0 := keepC (keepC s0 _ HQ.out.sub)
            have T0 := keepC (keepC t0 _ HQ.out.sub)
            have P1 := Lib.hid (keepC p1)
            have P3 := Lib.hid (keepC p3)
            have Q0 := Lib.hid (keepC q0)
            have Q2 := Lib.hid (keepC q2)
            clear r0 n0 n1 s0 t0 p0 p1 p2 p3 q0 q1 q2 q3 hsz
            rw [← hll] at x0
            rw [← hll] at X0
            have HLL := Lib.hid hll
            clear hll hle hln
            go_wp2_with fail
            refine wp_region_add (fun w' => Below (wr).heap.size (wr) w') (by kernel_rfl) (by kernel_rfl) ((Below.refl _ _).drew) ?_
            repeat (first
              | (refine add_skip rfl (fun K' hK' => ?_); go_simp; refine hK' _ ?_; clear hK' K')
              | (refine add_do (v := ?_) rfl (fun w1 hb => ?_) (fun K' hK' => ?_); rotate_left
                 · go_simp
                   first
                   | (with_reducible exact rfl)
                   | (with_reducible exact ⟨rfl, hb⟩)
                   | exact rfl
                   | exact ⟨rfl, hb⟩
                 go_simp; refine hK' _ ?_; clear hK' K'))
            refine add_nil ?_
            intro wa hba
            clear X0 R0 N0 N1 S0 T0 x0
            have HQa := Lib.hid (HQ.out.below hba)
            have P1a := keepC (P1.out _ HQa.out.sub)
            have Q0a := keepC (Q0.out _ HQa.out.sub)
            clear hba
            obtain ⟨w1, rfl⟩ : ∃ w1, w1 = wa := ⟨wa, rfl⟩
            go_wp2_with fail
            refine wp_region_add_tail 7 (fun w' => Below (w1).heap.size (w1) w') (by kernel_rfl) (by kernel_rfl) ((Below.refl _ _).drew) ?_
            simp only [List.take_succ_cons, List.take_zero, List.drop_succ_cons, List.drop_zero]
            repeat (first
              | (refine add_skip rfl (fun K' hK' => ?_); go_simp; refine hK' _ ?_; clear hK' K')
              | (refine add_do (v := ?_) rfl (fun w1 hb => ?_) (fun K' hK' => ?_); rotate_left
                 · go_simp
                   first
                   | (with_reducible exact rfl)
                   | (with_reducible exact ⟨rfl, hb⟩)
                   | exact rfl
                   | exact ⟨rfl, hb⟩
                 go_simp; refine hK' _ ?_; clear hK' K'))
            refine add_nil ?_
            intro wa hba
            go_wp2_with fail
            refine (put_c w S (S + 2) (S + 3) b met _ list (pn1 L (p, q)) wa (HQa.out.below hba) (Nat.le_trans HLN.out (by omega)) _ _ rfl rfl).mono ?_
            rintro e w3 ⟨rfl, v3, HQ3⟩
            replace HQ3 := Lib.hid HQ3
            clear hba P1a Q0a
            have P3a := keepC (P3.out _ HQ3.out.sub)
            have Q2a := keepC (Q2.out _ HQ3.out.sub)
            go_wp2_with fail
            refine wp_region_add_tail 7 (fun w' => Below (w3).heap.size (w3) w') (by kernel_rfl) (by kernel_rfl) ((Below.refl _ _).drew) ?_
            simp only [List.take_succ_cons, List.take_zero, List.drop_succ_cons, List.drop_zero]
            repeat (first
              | (refine add_skip rfl (fun K' hK' => ?_); go_simp; refine hK' _ ?_; clear hK' K')
              | (refine add_do (v := ?_) rfl (fun w1 hb => ?_) (fun K' hK' => ?_); rotate_left
                 · go_simp
                   first
                   | (with_reducible exact rfl)
                   | (with_reducible exact ⟨rfl, hb⟩)
                   | exact rfl
                   | exact ⟨rfl, hb⟩
                 go_simp; refine hK' _ ?_; clear hK' K'))
            refine add_nil ?_
            intro wa hba
            go_wp2_with fail
            refine (put_c w S (S + 2) (S + 3) b met v3 (pput list (pn1 L (p, q))) (pn2 L (p, q)) wa (HQ3.out.below hba) (by have := pput_len list (pn1 L (p, q)); have := HLN.out; omega) _ _ rfl rfl).mono ?_
            rintro e w4 ⟨rfl, v4, HQ4⟩
            replace HQ4 := Lib.hid HQ4
            clear hba P3a Q2a
            go_wp2_with fail
            go_roundw
            case rel => exact ⟨a + 1, v4, _, by go_num, HQ4, HI2⟩
            case measure => simp [intOf]; omega
          · have HPR : Hid (list.Perm (prV L met)) := (prV_perm HI.out (by omega) (by have := HML.out; omega)).symm
            have hpos := HI.out.pos (by omega) HMV.out
            have halt : ¬ (a < ll) := by omega
            have HSO := Lib.hid (sortRowsX_c list w.heap.size _ _ wr HQ.out.own HI.out.nd (by omega) hpos)
            have Hsub := Lib.hid HQ.out.sub
            rw [← hll] at x0
            have HLL := Lib.hid hll
            have HLE := Lib.hid hle
            rw [← hll] at HSO
            have HBO := Lib.hid HQ.out.bxO
            have HOF := Lib.hid (HQ.out.own.off (k := S + 3) (.inr (.inr (.inl rfl))))
            have HOG := Lib.hid HQ.out.own.ge
            rw [← hll] at HBO HOF HOG
            clear hll hle hln hpos
            go_wp2_with fail
            refine HSO.out.mono ?_
            rintro e w3 ⟨rfl, ⟨list', hp', hs', hO'⟩, hg⟩
            have HFin : Hid (prows list' = prows (prV L met)) := by
              have := sorted_uniq (hp'.trans HPR.out) hs' ((prTo_asc _ _ _).imp fun {x y} h => by
                rw [ltP_iff] at *; rw [decide_eq_true_eq] at h; rw [decide_eq_false_iff_not]; omega)
              rw [Hid, this]
            have hB3 := HBO.out.grown hg HOF.out
            have y0 := hB3.cell 0 (by simp)
            simp only [List.getElem_cons_zero] at y0
            have HO3 := Lib.hid hO'.toII
            have HB3 := Lib.hid (Below.grown Hsub.out hg Hsub.out.size HOG.out)
            clear hp' hs' hO' hg hB3 x0
            go_wp2
            go_ret2
            exact ⟨_, rfl, by rw [HF1.out, ← HFin.out]; exact HO3.out, HB3.out⟩
  · have HF1 : Hid (pgV c ts L i = []) := by rw [Hid, HV1.out, HV.out, if_neg h0]
    rw [HV.out]
    generalize codeB (isSetB c ts) (stepB ts.length L i 0 0) = d at *
    have hne : (d != 0) = true := by simpa using h0
    clear h0
    have hmm := @run_makeMap Tryz.prog
    go_enter Tryz.func32, Tryz.ntmps32
    go_wp2_with fail
    refine (HC.out _ (by (repeat (first | (with_reducible exact Below.refl _ _) | (with_reducible assumption) | (with_reducible refine below_al ?_) | (with_reducible refine below_dr ?_) | (with_reducible refine below_drN ?_) | (with_reducible refine below_set ?_ (by first | exact Nat.le_refl _ | (dsimp only; omega) | omega)) | (with_reducible refine below_tr (by with_reducible assumption) ?_))))).mono ?_
    rintro e w1 ⟨rfl, hb1⟩
    have Hw1 : Hid (Below w.heap.size w w1) := by (show Below _ _ _); (repeat (first | (with_reducible exact Below.refl _ _) | (with_reducible assumption) | (with_reducible refine below_al ?_) | (with_reducible refine below_dr ?_) | (with_reducible refine below_drN ?_) | (with_reducible refine below_set ?_ (by first | exact Nat.le_refl _ | (dsimp only; omega) | omega)) | (with_reducible refine below_tr (by with_reducible assumption) ?_)))
    clear hb1
    go_wp2
    go_ret2
    exact ⟨_, rfl, by rw [HF1.out]; exact OwnII.nil _ _, Hw1.out⟩

end Go.Proofs.YtkgnejhflnekaaaGreat
namespace Go.Proofs.YtkgnejhflnekaaaGreat
open Go.RowKit
theorem pgV_len (c : Int) (ts : List T4) (L : List (List Int)) (i : Int) : (pgV c ts L i).length ≤ 256 ∧ Short 1000000000 (pgV c ts L i) ∧ tot (pgV c ts L i) ≤ 1000 := by
  unfold pgV
  split
  · rename_i h
    obtain ⟨h1, h2⟩ := codeB_zero h
    obtain ⟨hB, _⟩ := stepB_parts h2
    have := (isSetB_small h1).2
    have h3 := prV_len L (metV L i)
    have h4 := sq16 (n := L.length) (by rw [hB.1]; omega)
    have h5 : Short 2 (prows (prV L (metV L i))) := fun k hk => by simp [prows, prow]
    have h6 := tot_le (Short_iff.1 h5)
    rw [prows_length] at h6
    exact ⟨by rw [prows_length]; omega, fun k hk => Nat.le_trans (h5 k hk) (by omega), by omega⟩
  · exact ⟨by simp, fun k hk => by simp at hk, by simp [tot]⟩
end Go.Proofs.YtkgnejhflnekaaaGreat
