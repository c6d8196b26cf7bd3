/- Contracts and lemmas for the statements of this seat, written for this claim; each theorem states its own conditions. -/
import Derived.Test.YtkgnejhflnekaaaFrOs
set_option linter.unusedVariables false
set_option linter.unusedSimpArgs false
namespace Go.Proofs.Ytkgnejhflnekaaa
open Go.RowKit
def addAt (xs : List Int) (j y : Int) : List Int := xs.set j.toNat (wrap64 (xs.getD j.toNat 0 + y))
def addRow (row : List Int) (y : Int) (xs : List Int) (m : Nat) : List Int := (row.take m).foldl (fun xs j => addAt xs j y) xs
def addAll (L : List (List Int)) (now : List Int) (m : Nat) : List Int := (List.range m).foldl (fun xs i => addRow (L.getD i []) (now.getD i 0) xs 4) (List.replicate L.length 0)
theorem addAt_len (xs : List Int) (j y : Int) : (addAt xs j y).length = xs.length := by simp [addAt]
theorem addRow_succ {row : List Int} {y : Int} {xs : List Int} {m : Nat} (h : m < row.length) : addRow row y xs (m + 1) = addAt (addRow row y xs m) row[m] y := by
  unfold addRow; rw [List.take_succ_eq_append_getElem h, List.foldl_append]; rfl
theorem addRow_len (row : List Int) (y : Int) (xs : List Int) : ∀ m, (addRow row y xs m).length = xs.length := by
  intro m
  unfold addRow
  generalize row.take m = l
  induction l generalizing xs with
  | nil => rfl
  | cons j l ih => rw [List.foldl_cons, ih, addAt_len]
theorem addRow_zero (row : List Int) (y : Int) (xs : List Int) : addRow row y xs 0 = xs := by simp [addRow]
theorem addAll_succ {L : List (List Int)} {now : List Int} {m : Nat} (h : m < L.length) (h' : m < now.length) : addAll L now (m + 1) = addRow L[m] now[m] (addAll L now m) 4 := by
  unfold addAll; rw [List.range_succ, List.foldl_append]; simp [h, h']
theorem addAll_len (L : List (List Int)) (now : List Int) : ∀ m, (addAll L now m).length = L.length
  | 0 => by simp [addAll]
  | m + 1 => by
    have := addAll_len L now m
    unfold addAll at *
    rw [List.range_succ, List.foldl_append]
    simp only [List.foldl_cons, List.foldl_nil]
    rw [addRow_len]; exact this
def numsAt (L : List (List Int)) (i : Int) : Nat → List Int
  | 0 => (List.replicate L.length 0).set i.toNat 1
  | k + 1 => addAll L (numsAt L i k) L.length
theorem numsAt_len (L : List (List Int)) (i : Int) : ∀ k, (numsAt L i k).length = L.length
  | 0 => by simp [numsAt]
  | k + 1 => addAll_len _ _ _
theorem addAt_at {xs : List Int} {m : Nat} {y : Int} (h : m < xs.length) : addAt xs (m : Int) y = xs.set m (wrap64 (xs[m] + y)) := by simp [addAt, h]
def numCode (c : Int) (ts : List T4) (L : List (List Int)) (i n : Int) : Int := codeB (isSetB c ts) (stepB ts.length L i n 20)
def numV (c : Int) (ts : List T4) (L : List (List Int)) (i n : Int) : List Int := if numCode c ts L i n = 0 then numsAt L i n.toNat else []
theorem numV_len (c : Int) (ts : List T4) (L : List (List Int)) (i n : Int) : (numV c ts L i n).length ≤ 1000000 := by
  unfold numV
  split
  · rename_i h
    obtain ⟨h1, h2⟩ := codeB_zero h
    obtain ⟨hB, _⟩ := stepB_parts h2
    rw [numsAt_len, hB.1]
    have := (isSetB_small h1).2
    omega
  · simp
theorem made_set (n j : Nat) : ((madeCells #[Value.int .i64 0] n).setIfInBounds j (.int .i64 1)).toList = ints ((List.replicate n (0 : Int)).set j 1) := by
  rw [Array.toList_setIfInBounds, toList_madeCells_one, ← ints_set]; simp [ints]
theorem ints_rep_set (n j : Nat) (hj : j < n) : (ints (List.replicate n 0)).set j (.int .i64 1) = ints ((List.replicate n (0 : Int)).set j 1) := by simp [ints, List.map_set]
set_option maxRecDepth 100000 in
set_option maxHeartbeats 1000000 in
theorem implNumbersAfter_c (c : Int) (ts : List T4) (A : Option Addr) (cx : Nat) (L : List (List Int)) (B : Option Addr) (cr : Nat) (i n : Int) (w : World) (hT : TileCells w A ts) (hl : ts.length ≤ 1000000000) (hR : RowsC w B L) (hn : L.length ≤ 1000000000) (hS : Short 1000000000 L) :
    Calls Try.prog 22 #[.agg #[.int .i64 c, .slice A ts.length cx], .slice B L.length cr, .int .i64 i, .int .i64 n] w (RetIC1 w (numV c ts L i n) (numCode c ts L i n)) := by
  have HC := Lib.hid (fun (wq : World) (hq : Below w.heap.size w wq) => stepsCode_c c ts A cx L B cr i n 20 wq (hT.below hq) hl (hR.below hq) hn hS)
  have HR := Lib.hid hR
  have HV : Hid (numCode c ts L i n = codeB (isSetB c ts) (stepB ts.length L i n 20)) := rfl
  have HV1 : Hid (numV c ts L i n = if numCode c ts L i n = 0 then numsAt L i n.toNat else []) := rfl
  clear hT hR
  by_cases h0 : codeB (isSetB c ts) (stepB ts.length L i n 20) = 0
  · obtain ⟨hs, hst⟩ := codeB_zero h0
    obtain ⟨hB, ⟨i0, i1⟩, n0, n1⟩ := stepB_parts hst
    have h16 := (isSetB_small hs).2
    obtain ⟨m, rfl⟩ := Int.eq_ofNat_of_zero_le n0
    obtain ⟨im, rfl⟩ := Int.eq_ofNat_of_zero_le i0
    have hiL : im < L.length := by rw [hB.1]; omega
    have hL16 : L.length ≤ 16 := by rw [hB.1]; omega
    have HLN := Lib.hid hB.1
    have HB := Lib.hid hB.2
    rw [h0] at HV HC
    have hc0 := HV.out
    have HF1 : Hid (numV c ts L im m = numsAt L im m) := by rw [Hid, HV1.out, if_pos hc0]; rfl
    rw [hc0]
    have hm := fun w => make_k (P := Try.prog) 40 2 _ 1 8 Try.underlying40 infoInt L.length (by omega) (by omega) w
    have HM := Lib.hid hm
    clear hs hst hB i1 h0 hc0 HV HV1 hS
    go_enter Try.func22, Try.ntmps22
    go_wp2_with fail
    refine (HC.out _ (by (repeat (first | (with_reducible exact Below.refl _ _) | (with_reducible assumption) | (with_reducible refine below_al ?_) | (with_reducible refine below_dr ?_) | (with_reducible refine below_drN ?_) | (with_reducible refine below_set ?_ (by first | exact Nat.le_refl _ | (dsimp only; omega) | omega)) | (with_reducible refine below_tr (by with_reducible assumption) ?_))))).mono ?_
    rintro e w1 ⟨rfl, hb1⟩
    have Hw1 : Hid (Below w.heap.size w w1) := by (show Below _ _ _); (repeat (first | (with_reducible exact Below.refl _ _) | (with_reducible assumption) | (with_reducible refine below_al ?_) | (with_reducible refine below_dr ?_) | (with_reducible refine below_drN ?_) | (with_reducible refine below_set ?_ (by first | exact Nat.le_refl _ | (dsimp only; omega) | omega)) | (with_reducible refine below_tr (by with_reducible assumption) ?_)))
    clear hb1
    have hbl : ∀ w1 : World, Blk (w1.alloc (.cells (madeCells #[.int .i64 0] L.length) 2)) w1.heap.size (ints (List.replicate L.length 0)) 2 := fun w1 => by
      have h := Blk.newA w1 (madeCells #[.int .i64 0] L.length) 2
      rw [toList_madeCells_one] at h
      simpa [ints] using h
    have HBl := Lib.hid hbl
    have x0 := (hbl w1).int im (by simpa using hiL)
    have z0 := (hbl w1).frozen im
    clear hbl
    go_wp2_with fail
    clear hm x0 z0
    go_loopw [11, 32] (fun v x wr => ∃ k : Nat, k ≤ m ∧ x = .int .i64 k ∧ OwnI wr w.heap.size v (numsAt L im k) ∧ Below w.heap.size w wr) (fun _ x _ => m - (intOf x).toNat)
    case atStart =>
      refine ⟨0, by omega, by simp, ?_, by have h1 := Hw1.out; (repeat (first | (with_reducible exact Below.refl _ _) | (with_reducible assumption) | (with_reducible refine below_al ?_) | (with_reducible refine below_dr ?_) | (with_reducible refine below_drN ?_) | (with_reducible refine below_set ?_ (by first | exact Nat.le_refl _ | (dsimp only; omega) | omega)) | (with_reducible refine below_tr (by with_reducible assumption) ?_)))⟩
      exact OwnI.newly rfl (by simp [numsAt]) (made_set L.length im) Hw1.out.size (by simp [numsAt]; omega)
    case round =>
      obtain ⟨k, hk, rfl, hO, hb⟩ := hrel
      obtain ⟨w0, rfl⟩ : ∃ w0, w0 = wr := ⟨wr, rfl⟩
      have Hb := Lib.hid hb
      have HO := Lib.hid hO
      by_cases hkm : k < m
      · have hnl := numsAt_len L im k
        have HNS : Hid (numsAt L im (k + 1) = addAll L (numsAt L im k) L.length) := rfl
        obtain ⟨A3, cx3, rfl, hN, -⟩ := hO.shape
        rw [hnl]
        generalize numsAt L im k = now at *
        have HN := Lib.hid hN
        have HNL := Lib.hid hnl
        have hm := HM.out
        clear hO hN hb hnl
        go_wp2_with fail
        clear hm
        go_loopw [39] (fun x wq => ∃ q : Nat, q ≤ L.length ∧ x = .int .i64 q ∧ Blk wq w0.heap.size (ints (addAll L now q)) 2 ∧ Below w0.heap.size w0 wq) (fun x _ => L.length - (intOf x).toNat)
        case atStart => exact ⟨0, by omega, rfl, by have h := HBl.out w0; simpa [addAll] using h, by (repeat (first | (with_reducible exact Below.refl _ _) | (with_reducible assumption) | (with_reducible refine below_al ?_) | (with_reducible refine below_dr ?_) | (with_reducible refine below_drN ?_) | (with_reducible refine below_set ?_ (by first | exact Nat.le_refl _ | (dsimp only; omega) | omega)) | (with_reducible refine below_tr (by with_reducible assumption) ?_)))⟩
        case round =>
          obtain ⟨q, hq, rfl, hBk, hb2⟩ := hrel
          have HBk := Lib.hid hBk
          have Hb2 := Lib.hid hb2
          by_cases hqL : q < L.length
          · have hqn : q < now.length := by rw [HNL.out]; exact hqL
            have HS := Lib.hid (addAll_succ (L := L) (now := now) hqL hqn)
            obtain ⟨b, off, A1, c1, eB, hlt, c0, r1⟩ := (HR.out.below (Hb.out.trans (hb2.mono Hb.out.size))) q hqL
            obtain ⟨b2, off2, eA, hlt2, a0⟩ := (HN.out.below hb2).int q hqn
            obtain ⟨h4, hrr⟩ := HB.out q hqL
            have R1 := Lib.hid ((HR.out.below Hb.out))
            have HRR := Lib.hid hrr
            have HH4 := Lib.hid h4
            rw [eB] at R1
            obtain ⟨A1', c1', c0', r1'⟩ := R1.out.pair q hqL
            have hsame : (Value.slice A1 L[q].length c1) = .slice A1' L[q].length c1' := by
              have := keepC c0' _ hb2
              rw [c0] at this
              exact Option.some.inj this
            injection hsame with s1 _ s3
            subst s1 s3
            have R2 := Lib.hid r1'
            subst eB eA
            rw [h4] at c0
            clear r1 hrr h4 hb2 hBk c0' r1'
            go_wp2_with fail
            go_loopw [49] (fun x wz => ∃ s : Nat, s ≤ 4 ∧ x = .int .i64 s ∧ Blk wz w0.heap.size (ints (addRow L[q] now[q] (addAll L now q) s)) 2 ∧ Below w0.heap.size w0 wz) (fun x _ => 4 - (intOf x).toNat)
            case atStart => exact ⟨0, by omega, rfl, by rw [addRow_zero]; exact HBk.out, Hb2.out⟩
            case round =>
              obtain ⟨s, hs, rfl, hB3, hb3⟩ := hrel
              have HB3 := Lib.hid hB3
              have Hb3 := Lib.hid hb3
              by_cases hs4 : s < 4
              · have hmr : s < L[q].length := by have := HH4.out; omega
                obtain ⟨b3, off3, e3, hlt3, d0⟩ := (R2.out.below hb3).int s hmr
                obtain ⟨j0, j1⟩ := HRR.out s hmr
                obtain ⟨jn, hjn⟩ := Int.eq_ofNat_of_zero_le j0
                have hjL : jn < (addRow L[q] now[q] (addAll L now q) s).length := by rw [addRow_len, addAll_len]; have := HLN.out; omega
                have hjL2 : jn < L.length := by have := HLN.out; omega
                have x0 := hB3.int jn hjL
                have z0 := hB3.frozen jn
                have HS2 := Lib.hid (addRow_succ (y := now[q]) (xs := addAll L now q) hmr)
                rw [hjn, addAt_at hjL] at HS2
                rw [hjn] at d0
                have hlt4 := hB3.lt
                subst e3
                generalize (addRow L[q] now[q] (addAll L now q) s)[jn] = x at *
                generalize hnk : now[q] = y at *
                have HNK := Lib.hid hnk
                clear hnk hB3 hb3 j0 j1 hjn c0 a0
                go_wp2_with fail
                go_roundw
                case rel => exact ⟨s + 1, by omega, by go_num, by rw [HS2.out]; exact HB3.out.setInt jn _, Hb3.out.setCell (Nat.le_refl _) _⟩
                case measure => simp [intOf]; omega
              · obtain rfl : s = 4 := by omega
                clear hB3 hb3 c0 a0
                go_wp2_with fail
                go_roundw
                case rel => exact ⟨q + 1, by omega, by go_num, by rw [HS.out]; exact HB3.out, Hb3.out⟩
                case measure => simp [intOf]; omega
          · obtain rfl : q = L.length := by omega
            clear hBk hb2
            have hown : OwnI wr w.heap.size (.slice (some ⟨w0.heap.size, 0, none⟩) L.length L.length) (numsAt L im (k + 1)) := by
              rw [HNS.out]
              have := Blk.own HBk.out Hb.out.size (by rw [addAll_len]; omega)
              rw [addAll_len] at this
              exact this
            have HOwn := Lib.hid hown
            clear hown
            go_wp2_with fail
            go_roundw
            case rel => exact ⟨k + 1, by omega, by go_num, HOwn.out, Hb.out.trans (Hb2.out.mono Hb.out.size)⟩
            case measure => simp [intOf]; omega
      · obtain rfl : k = m := by omega
        clear hO hb
        go_wp2
        go_ret2
        exact ⟨_, rfl, by rw [HF1.out]; exact HO.out, Hb.out⟩
  · have HF1 : Hid (numV c ts L i n = []) := by rw [Hid, HV1.out, HV.out, if_neg h0]
    rw [HV.out]
    generalize codeB (isSetB c ts) (stepB ts.length L i n 20) = d at *
    have hne : (d != 0) = true := by simpa using h0
    clear h0
    go_enter Try.func22, Try.ntmps22
    go_wp2_with fail
    refine (HC.out _ (by (repeat (first | (with_reducible exact Below.refl _ _) | (with_reducible assumption) | (with_reducible refine below_al ?_) | (with_reducible refine below_dr ?_) | (with_reducible refine below_drN ?_) | (with_reducible refine below_set ?_ (by first | exact Nat.le_refl _ | (dsimp only; omega) | omega)) | (with_reducible refine below_tr (by with_reducible assumption) ?_))))).mono ?_
    rintro e w1 ⟨rfl, hb1⟩
    have Hw1 : Hid (Below w.heap.size w w1) := by (show Below _ _ _); (repeat (first | (with_reducible exact Below.refl _ _) | (with_reducible assumption) | (with_reducible refine below_al ?_) | (with_reducible refine below_dr ?_) | (with_reducible refine below_drN ?_) | (with_reducible refine below_set ?_ (by first | exact Nat.le_refl _ | (dsimp only; omega) | omega)) | (with_reducible refine below_tr (by with_reducible assumption) ?_)))
    clear hb1
    go_wp2
    go_ret2
    exact ⟨_, rfl, by rw [HF1.out]; exact OwnI.nil _ _, Hw1.out⟩

end Go.Proofs.Ytkgnejhflnekaaa
