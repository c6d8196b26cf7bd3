/- Contracts and lemmas for the statements of this seat, written for this claim; each theorem states its own conditions. -/
import Derived.Test.YtkgnejhflnekaaaFrOo
import Derived.Test.YtkgnejhflnekaaaFrCp
import Derived.Test.YtkgnejhflnekaaaFrMk
set_option linter.unusedVariables false
set_option linter.unusedSimpArgs false
namespace Go.Proofs.Ytkgnejhflnekaaa
open Go.RowKit
attribute [local go_sem] addUpon_value addUpon_skip addUpon_enter
set_option maxRecDepth 100000 in
set_option maxHeartbeats 1000000 in
theorem l09Equal_c (x0 x1 x2 x3 y0 y1 y2 y3 : Int) (A B : Option Addr) (cx cy : Nat) (w : World) (hx : Cells w A (ints [x0, x1, x2, x3])) (hy : Cells w B (ints [y0, y1, y2, y3])) :
    Calls Try.prog 44 #[.slice A 4 cx, .slice B 4 cy] w fun e w' => e = .returned (.bool (eqI [x0, x1, x2, x3] [y0, y1, y2, y3])) ∧ Below w.heap.size w w' := by
  obtain ⟨b, off, rfl, hlt, c0⟩ := hx.int 0 (by simp)
  obtain ⟨b', off', rfl, hlt', d0⟩ := hy.int 0 (by simp)
  have at_ : ∀ (b off : Nat) (xs : List Int), Cells w (some ⟨b, off, none⟩) (ints xs) → ∀ j (h : j < xs.length), w.cell? ⟨b, off + j, none⟩ = some (.int .i64 xs[j]) := fun b off xs h j hj => by
    obtain ⟨b2, off2, e2, _, hc⟩ := h.int j hj
    injection e2 with e2
    injection e2 with e3 e4
    subst e3 e4
    exact hc
  have f0 := keepC c0
  have f1 := keepC (at_ _ _ _ hx 1 (by simp))
  have f2 := keepC (at_ _ _ _ hx 2 (by simp))
  have f3 := keepC (at_ _ _ _ hx 3 (by simp))
  have g0 := keepC d0
  have g1 := keepC (at_ _ _ _ hy 1 (by simp))
  have g2 := keepC (at_ _ _ _ hy 2 (by simp))
  have g3 := keepC (at_ _ _ _ hy 3 (by simp))
  simp only [Nat.add_zero, List.getElem_cons_zero, List.getElem_cons_succ] at f0 f1 f2 f3 g0 g1 g2 g3
  have hr : eqI [x0, x1, x2, x3] [y0, y1, y2, y3] = (x0 == y0 && x1 == y1 && x2 == y2 && x3 == y3) := by
    unfold eqI; simp [Bool.and_assoc]
    by_cases a0 : x0 = y0 <;> by_cases a1 : x1 = y1 <;> by_cases a2 : x2 = y2 <;> by_cases a3 : x3 = y3 <;> simp [a0, a1, a2, a3]
  have HR := Lib.hid hr
  clear hr c0 d0 hx hy at_
  cases h0 : (x0 == y0)
  · have HF : Hid (eqI [x0, x1, x2, x3] [y0, y1, y2, y3] = false) := by rw [Hid, HR.out, h0]; rfl
    go_enter Try.func44, Try.ntmps44
    go_wp2_with fail
    refine wp_region_add (fun w' => Below (w).heap.size (w) w') (by kernel_rfl) (by kernel_rfl) ((Below.refl _ _).drew) ?_
    repeat (first
      | (refine add_skip rfl (fun K' hK' => ?_); go_simp; refine hK' _ ?_; clear hK' K')
      | (refine add_do (v := ?_) rfl (fun w1 hb => ?_) (fun K' hK' => ?_); rotate_left
         · go_simp
           first
           | (with_reducible exact rfl)
           | (with_reducible exact ⟨rfl, hb⟩)
           | exact rfl
           | exact ⟨rfl, hb⟩
         go_simp; refine hK' _ ?_; clear hK' K'))
    refine add_nil ?_
    intro wa hba
    go_wp2
    go_ret
    exact ⟨ret_bool HF.out.symm, by (repeat (first | (with_reducible exact Below.refl _ _) | (with_reducible assumption) | (with_reducible refine below_al ?_) | (with_reducible refine below_dr ?_) | (with_reducible refine below_drN ?_) | (with_reducible refine below_set ?_ (by first | exact Nat.le_refl _ | (dsimp only; omega) | omega)) | (with_reducible refine below_tr (by with_reducible assumption) ?_)))⟩
  · cases h1 : (x1 == y1)
    · have HF : Hid (eqI [x0, x1, x2, x3] [y0, y1, y2, y3] = false) := by rw [Hid, HR.out, h0, h1]; rfl
      go_enter Try.func44, Try.ntmps44
      go_wp2_with fail
      refine wp_region_add (fun w' => Below (w).heap.size (w) w') (by kernel_rfl) (by kernel_rfl) ((Below.refl _ _).drew) ?_
      repeat (first
        | (refine add_skip rfl (fun K' hK' => ?_); go_simp; refine hK' _ ?_; clear hK' K')
        | (refine add_do (v := ?_) rfl (fun w1 hb => ?_) (fun K' hK' => ?_); rotate_left
           · go_simp
             first
             | (with_reducible exact rfl)
             | (with_reducible exact ⟨rfl, hb⟩)
             | exact rfl
             | exact ⟨rfl, hb⟩
           go_simp; refine hK' _ ?_; clear hK' K'))
      refine add_nil ?_
      intro wa hba
      go_wp2
      go_ret
      exact ⟨ret_bool HF.out.symm, by (repeat (first | (with_reducible exact Below.refl _ _) | (with_reducible assumption) | (with_reducible refine below_al ?_) | (with_reducible refine below_dr ?_) | (with_reducible refine below_drN ?_) | (with_reducible refine below_set ?_ (by first | exact Nat.le_refl _ | (dsimp only; omega) | omega)) | (with_reducible refine below_tr (by with_reducible assumption) ?_)))⟩
    · cases h2 : (x2 == y2)
      · have HF : Hid (eqI [x0, x1, x2, x3] [y0, y1, y2, y3] = false) := by rw [Hid, HR.out, h0, h1, h2]; rfl
        go_enter Try.func44, Try.ntmps44
        go_wp2_with fail
        refine wp_region_add (fun w' => Below (w).heap.size (w) w') (by kernel_rfl) (by kernel_rfl) ((Below.refl _ _).drew) ?_
        repeat (first
          | (refine add_skip rfl (fun K' hK' => ?_); go_simp; refine hK' _ ?_; clear hK' K')
          | (refine add_do (v := ?_) rfl (fun w1 hb => ?_) (fun K' hK' => ?_); rotate_left
             · go_simp
               first
               | (with_reducible exact rfl)
               | (with_reducible exact ⟨rfl, hb⟩)
               | exact rfl
               | exact ⟨rfl, hb⟩
             go_simp; refine hK' _ ?_; clear hK' K'))
        refine add_nil ?_
        intro wa hba
        go_wp2
        go_ret
        exact ⟨ret_bool HF.out.symm, by (repeat (first | (with_reducible exact Below.refl _ _) | (with_reducible assumption) | (with_reducible refine below_al ?_) | (with_reducible refine below_dr ?_) | (with_reducible refine below_drN ?_) | (with_reducible refine below_set ?_ (by first | exact Nat.le_refl _ | (dsimp only; omega) | omega)) | (with_reducible refine below_tr (by with_reducible assumption) ?_)))⟩
      · have HF : Hid (eqI [x0, x1, x2, x3] [y0, y1, y2, y3] = (x3 == y3)) := by rw [Hid, HR.out, h0, h1, h2]; rfl
        go_enter Try.func44, Try.ntmps44
        go_wp2_with fail
        refine wp_region_add (fun w' => Below (w).heap.size (w) w') (by kernel_rfl) (by kernel_rfl) ((Below.refl _ _).drew) ?_
        repeat (first
          | (refine add_skip rfl (fun K' hK' => ?_); go_simp; refine hK' _ ?_; clear hK' K')
          | (refine add_do (v := ?_) rfl (fun w1 hb => ?_) (fun K' hK' => ?_); rotate_left
             · go_simp
               first
               | (with_reducible exact rfl)
               | (with_reducible exact ⟨rfl, hb⟩)
               | exact rfl
               | exact ⟨rfl, hb⟩
             go_simp; refine hK' _ ?_; clear hK' K'))
        refine add_nil ?_
        intro wa hba
        go_wp2
        go_ret
        exact ⟨ret_bool HF.out.symm, by (repeat (first | (with_reducible exact Below.refl _ _) | (with_reducible assumption) | (with_reducible refine below_al ?_) | (with_reducible refine below_dr ?_) | (with_reducible refine below_drN ?_) | (with_reducible refine below_set ?_ (by first | exact Nat.le_refl _ | (dsimp only; omega) | omega)) | (with_reducible refine below_tr (by with_reducible assumption) ?_)))⟩
theorem list4 {xs : List Int} (h : xs.length = 4) : ∃ a b c d, xs = [a, b, c, d] := by
  match xs, h with
  | [a, b, c, d], _ => exact ⟨a, b, c, d, rfl⟩
set_option maxRecDepth 100000 in
set_option maxHeartbeats 1000000 in
theorem l09EqualL_c (xs ys : List Int) (A B : Option Addr) (cx cy : Nat) (w : World) (hx : Cells w A (ints xs)) (hy : Cells w B (ints ys)) (lx : xs.length = 4) (ly : ys.length = 4) :
    Calls Try.prog 44 #[.slice A xs.length cx, .slice B ys.length cy] w fun e w' => e = .returned (.bool (eqI xs ys)) ∧ Below w.heap.size w w' := by
  obtain ⟨x0, x1, x2, x3, rfl⟩ := list4 lx
  obtain ⟨y0, y1, y2, y3, rfl⟩ := list4 ly
  exact l09Equal_c x0 x1 x2 x3 y0 y1 y2 y3 A B cx cy w hx hy
set_option maxRecDepth 100000 in
set_option maxHeartbeats 1000000 in
theorem specIsOneToOne_c (c : Int) (ts : List T4) (A : Option Addr) (cx : Nat) (L : List (List Int)) (B : Option Addr) (cr : Nat) (w : World) (hT : TileCells w A ts) (hl : ts.length ≤ 1000000000) (hR : RowsC w B L) (hn : L.length ≤ 1000000000) (hS : Short 1000000000 L) :
    Calls Try.prog 16 #[.agg #[.int .i64 c, .slice A ts.length cx], .slice B L.length cr] w fun e w' => e = .returned (.tuple #[.bool (oneV c ts L), .int .i64 (codeB (isSetB c ts) (areBlocksB ts.length L))]) ∧ Below w.heap.size w w' := by
  have HC := Lib.hid (fun (wq : World) (hq : Below w.heap.size w wq) => l09Code_c c ts A cx L B cr wq (hT.below hq) hl (hR.below hq) hn hS)
  have HR := Lib.hid hR
  have HV : Hid (oneV c ts L = (isSetB c ts && areBlocksB ts.length L && one1 L)) := rfl
  have HB := Lib.hid (areBlocksB_iff (n := ts.length) (L := L))
  clear hT hR
  generalize isSetB c ts = s at *
  generalize areBlocksB ts.length L = a at *
  cases s
  · have HF := Lib.hid HV.out
    go_enter Try.func16, Try.ntmps16
    go_wp2_with fail
    refine (HC.out _ (by (repeat (first | (with_reducible exact Below.refl _ _) | (with_reducible assumption) | (with_reducible refine below_al ?_) | (with_reducible refine below_dr ?_) | (with_reducible refine below_drN ?_) | (with_reducible refine below_set ?_ (by first | exact Nat.le_refl _ | (dsimp only; omega) | omega)) | (with_reducible refine below_tr (by with_reducible assumption) ?_))))).mono ?_
    rintro e w1 ⟨rfl, hb1⟩
    have Hw1 : Hid (Below w.heap.size w w1) := by (show Below _ _ _); (repeat (first | (with_reducible exact Below.refl _ _) | (with_reducible assumption) | (with_reducible refine below_al ?_) | (with_reducible refine below_dr ?_) | (with_reducible refine below_drN ?_) | (with_reducible refine below_set ?_ (by first | exact Nat.le_refl _ | (dsimp only; omega) | omega)) | (with_reducible refine below_tr (by with_reducible assumption) ?_)))
    clear hb1
    go_wp2
    go_ret2
    exact ⟨ret_bc HF.out.symm rfl, Hw1.out⟩
  · cases a
    · have HF := Lib.hid HV.out
      go_enter Try.func16, Try.ntmps16
      go_wp2_with fail
      refine (HC.out _ (by (repeat (first | (with_reducible exact Below.refl _ _) | (with_reducible assumption) | (with_reducible refine below_al ?_) | (with_reducible refine below_dr ?_) | (with_reducible refine below_drN ?_) | (with_reducible refine below_set ?_ (by first | exact Nat.le_refl _ | (dsimp only; omega) | omega)) | (with_reducible refine below_tr (by with_reducible assumption) ?_))))).mono ?_
      rintro e w1 ⟨rfl, hb1⟩
      have Hw1 : Hid (Below w.heap.size w w1) := by (show Below _ _ _); (repeat (first | (with_reducible exact Below.refl _ _) | (with_reducible assumption) | (with_reducible refine below_al ?_) | (with_reducible refine below_dr ?_) | (with_reducible refine below_drN ?_) | (with_reducible refine below_set ?_ (by first | exact Nat.le_refl _ | (dsimp only; omega) | omega)) | (with_reducible refine below_tr (by with_reducible assumption) ?_)))
      clear hb1
      go_wp2
      go_ret2
      exact ⟨ret_bc HF.out.symm rfl, Hw1.out⟩
    · have HV2 : Hid (oneV c ts L = one1 L) := HV.out
      have H4 : Hid (∀ k (h : k < L.length), L[k].length = 4) := fun k h => (HB.out rfl |>.2 k h).1
      rw [show codeB true true = 0 from rfl] at HC ⊢
      go_enter Try.func16, Try.ntmps16
      go_wp2_with fail
      refine (HC.out _ (by (repeat (first | (with_reducible exact Below.refl _ _) | (with_reducible assumption) | (with_reducible refine below_al ?_) | (with_reducible refine below_dr ?_) | (with_reducible refine below_drN ?_) | (with_reducible refine below_set ?_ (by first | exact Nat.le_refl _ | (dsimp only; omega) | omega)) | (with_reducible refine below_tr (by with_reducible assumption) ?_))))).mono ?_
      rintro e w1 ⟨rfl, hb1⟩
      have Hw1 : Hid (Below w.heap.size w w1) := by (show Below _ _ _); (repeat (first | (with_reducible exact Below.refl _ _) | (with_reducible assumption) | (with_reducible refine below_al ?_) | (with_reducible refine below_dr ?_) | (with_reducible refine below_drN ?_) | (with_reducible refine below_set ?_ (by first | exact Nat.le_refl _ | (dsimp only; omega) | omega)) | (with_reducible refine below_tr (by with_reducible assumption) ?_)))
      clear hb1
      go_wp2_with fail
      go_loopw [7] (fun i wr => ∃ k : Nat, k ≤ L.length ∧ i = .int .i64 k ∧ Hid (∀ j, j < k → one1At L j = true) ∧ Below w.heap.size w wr) (fun i _ => L.length - (intOf i).toNat)
      case atStart => exact ⟨0, by omega, rfl, fun j hj => by omega, Hw1.out⟩
      case round =>
        obtain ⟨k, hk, rfl, Hn, hb⟩ := hrel
        have Hb := Lib.hid hb
        by_cases h1 : k < L.length
        · obtain ⟨b, off, A1, c1, e1, hlt, c0, r1⟩ := (HR.out.below hb) k h1
          have hl4 := H4.out k h1
          have HA := Lib.hid (fun (j : Nat) (hj : j < L.length) A2 c2 w (hc : Cells w A1 (ints (L[k]'h1))) (hd : Cells w A2 (ints (L[j]'hj))) => l09EqualL_c (L[k]'h1) (L[j]'hj) A1 A2 c1 c2 w hc hd hl4 (H4.out j hj))
          have HBad := Lib.hid (one1_bad h1)
          have HAb := Lib.hid (fun j hj => one1At_bad (L := L) (i := k) (j := j) h1 hj)
          have HAg := Lib.hid (one1At_all h1)
          have R1 := Lib.hid r1
          have C0 := Lib.hid (keepC c0)
          clear r1 hb hS hl4
          go_wp2_with fail
          go_loopw [8] (fun i wq => ∃ m : Nat, m ≤ k ∧ i = .int .i64 m ∧ Hid (∀ j (hj : j < L.length), j < m → eqI L[k] L[j] = false) ∧ Below wr.heap.size wr wq) (fun i _ => k - (intOf i).toNat)
          case atStart => exact ⟨0, by omega, rfl, fun j _ hj => by omega, Below.refl _ _⟩
          case round =>
            obtain ⟨m, hm, rfl, Hm, hbq⟩ := hrel
            have Hbq := Lib.hid hbq
            by_cases hmk : m < k
            · have hmL : m < L.length := by omega
              have hrow : RowsC wr B L := HR.out.below (Hb.out.trans (hbq.mono Hb.out.size))
              rw [e1] at hrow
              obtain ⟨A2, c2, d0, r2⟩ := hrow.pair m hmL
              have HX := Lib.hid (HA.out m hmL A2 c2)
              have HP := Lib.hid (HAb.out m hmk)
              have R2 := Lib.hid r2
              have R3 := Lib.hid (R1.out.below hbq)
              have g0 := keepC d0
              have g1 := keepC (C0.out _ hbq)
              have Hm2 : Hid (eqI L[k] L[m] = false → ∀ j (hj : j < L.length), j < m + 1 → eqI L[k] L[j] = false) := fun hE j h1 hj => by
                by_cases e : j = m
                · subst e; exact hE
                · exact Hm.out j h1 (by omega)
              subst e1
              clear r2 hrow hbq d0 c0
              generalize eqI L[k] L[m] = r at *
              cases r
              · have HF := Lib.hid (Hm2.out rfl)
                go_wp2_with fail
                refine wp_region_add (fun w' => Below (wr).heap.size (wr) w') (by kernel_rfl) (by kernel_rfl) ((Below.refl _ _).drew) ?_
                repeat (first
                  | (refine add_skip rfl (fun K' hK' => ?_); go_simp; refine hK' _ ?_; clear hK' K')
                  | (refine add_do (v := ?_) rfl (fun w1 hb => ?_) (fun K' hK' => ?_); rotate_left
                     · go_simp
                       first
                       | (with_reducible exact rfl)
                       | (with_reducible exact ⟨rfl, hb⟩)
                       | (with_reducible exact (addCall (HX.out w1 (R3.out.below hb) (R2.out.below hb)) hb).2)
                       | exact (addCall (HX.out w1 (R3.out.below hb) (R2.out.below hb)) hb).2
                       | exact rfl
                       | exact ⟨rfl, hb⟩
                     go_simp; refine hK' _ ?_; clear hK' K'))
                refine add_nil ?_
                intro wa hba
                go_wp2
                go_roundw
                case rel => exact ⟨m + 1, by omega, by go_num, HF, Hbq.out.trans (hba.mono Hbq.out.size)⟩
                case measure => simp [intOf]; omega
              · have HF := Lib.hid (HBad.out (HP.out rfl))
                go_wp2_with fail
                refine wp_region_add (fun w' => Below (wr).heap.size (wr) w') (by kernel_rfl) (by kernel_rfl) ((Below.refl _ _).drew) ?_
                repeat (first
                  | (refine add_skip rfl (fun K' hK' => ?_); go_simp; refine hK' _ ?_; clear hK' K')
                  | (refine add_do (v := ?_) rfl (fun w1 hb => ?_) (fun K' hK' => ?_); rotate_left
                     · go_simp
                       first
                       | (with_reducible exact rfl)
                       | (with_reducible exact ⟨rfl, hb⟩)
                       | (with_reducible exact (addCall (HX.out w1 (R3.out.below hb) (R2.out.below hb)) hb).2)
                       | exact (addCall (HX.out w1 (R3.out.below hb) (R2.out.below hb)) hb).2
                       | exact rfl
                       | exact ⟨rfl, hb⟩
                     go_simp; refine hK' _ ?_; clear hK' K'))
                refine add_nil ?_
                intro wa hba
                go_wp2
                go_ret2
                exact ⟨ret_bc (by rw [HV2.out, HF.out]) rfl, by have h2 := Hb.out; have h3 := Hbq.out; (repeat (first | (with_reducible exact Below.refl _ _) | (with_reducible assumption) | (with_reducible refine below_al ?_) | (with_reducible refine below_dr ?_) | (with_reducible refine below_drN ?_) | (with_reducible refine below_set ?_ (by first | exact Nat.le_refl _ | (dsimp only; omega) | omega)) | (with_reducible refine below_tr (by with_reducible assumption) ?_)))⟩
            · have HF := Lib.hid (HAg.out (fun j hj hji => Hm.out j hj (by omega)))
              go_wp2
              go_roundw
              case rel => exact ⟨k + 1, by omega, by go_num, fun j hj => by
                by_cases e : j = k
                · subst e; exact HF.out
                · exact Hn.out j (by omega), Hb.out.trans (Hbq.out.mono Hb.out.size)⟩
              case measure => simp [intOf]; omega
        · have HF := Lib.hid (one1_all (fun j hj => Hn.out j (by omega)))
          go_wp2
          go_ret2
          exact ⟨ret_bc (by rw [HV2.out, HF.out]) rfl, hb⟩

end Go.Proofs.Ytkgnejhflnekaaa
namespace Go.Proofs.Ytkgnejhflnekaaa
open Go.RowKit
def corCode (c : Int) (ts : List T4) (L : List (List Int)) (i n : Int) : Int := codeB (isSetB c ts) (stepB ts.length L i n 20)
def corV (c : Int) (ts : List T4) (L : List (List Int)) (i n : Int) : List Int := if corCode c ts L i n = 0 then corners L i (n.toNat + 1) else []
theorem corV_len (c : Int) (ts : List T4) (L : List (List Int)) (i n : Int) : (corV c ts L i n).length ≤ 1000000 := by
  unfold corV
  split
  · rename_i h
    obtain ⟨_, h2⟩ := codeB_zero h
    obtain ⟨_, _, _, h3⟩ := stepB_parts h2
    rw [corners_len]
    omega
  · simp
/-- what a call gives back that returns a new list of numbers and a code -/
def RetIC1 (w : World) (xs : List Int) (c : Int) (e : Ending) (w' : World) : Prop :=
  ∃ v, e = .returned (.tuple #[v, .int .i64 c]) ∧ OwnI w' w.heap.size v xs ∧ Below w.heap.size w w'
theorem ret_vcI {v : Value} {a b : Int} (h : a = b) : Ending.returned (.tuple #[v, .int .i64 a]) = .returned (.tuple #[v, .int .i64 b]) := by rw [h]
end Go.Proofs.Ytkgnejhflnekaaa
