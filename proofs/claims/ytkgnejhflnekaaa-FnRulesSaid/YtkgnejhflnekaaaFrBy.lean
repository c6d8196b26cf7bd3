/- Contracts and lemmas for the statements of this seat, written for this claim; each theorem states its own conditions. -/
import Derived.Test.YtkgnejhflnekaaaFrMk
set_option linter.unusedVariables false
set_option linter.unusedSimpArgs false
namespace Go.Proofs.Ytkgnejhflnekaaa
open Go.RowKit
attribute [local go_sem] addUpon_value addUpon_skip addUpon_enter
set_option maxRecDepth 100000 in
set_option maxHeartbeats 1000000 in
theorem blocksCode1_c (c : Int) (A : Option Addr) (n cx : Nat) (L : List (List Int)) (B : Option Addr) (cr : Nat) (k : FuncId) (caps : Array Value) (fine : Bool) (b1 b2 b3 : Nat) (w : World) (hk : ∀ args w, Sem.run Try.prog (callFunc k args) w = .ok (.enter k args) w)
    (hR : RowsC w B L) (hl : n ≤ 1000000) (hn : L.length ≤ 1000000000) (hS : Short 1000000000 L)
    (f0 : w.cell? ⟨b1, 0, none⟩ = some (.int .i64 c)) (f1 : w.cell? ⟨b1, 1, none⟩ = some (.slice A n cx)) (f2 : w.cell? ⟨b2, 0, none⟩ = some (.slice B L.length cr)) (f3 : w.cell? ⟨b3, 0, none⟩ = some (.func (.func k) #[] caps))
    (hf : areBlocksB n L = true → ∀ w1, Below w.heap.size w w1 → Calls Try.prog k caps w1 fun e w2 => e = .returned (.bool fine) ∧ Below w1.heap.size w1 w2) :
    Calls Try.prog 52 #[.pointer (some ⟨b1, 0, none⟩), .pointer (some ⟨b2, 0, none⟩), .pointer (some ⟨b3, 0, none⟩)] w fun e w' => e = .returned (.bool (areBlocksB n L && fine)) ∧ Below w.heap.size w w' := by
  have HR := Lib.hid (areBlocks_c c A n cx L B cr w hR hl hn hS)
  have G3 := Lib.hid (keepC f3)
  have HF := Lib.hid hf
  clear hR hf
  generalize areBlocksB n L = r at *
  cases r
  · go_enter Try.func52, Try.ntmps52
    go_wp2_with fail
    refine HR.out.mono ?_
    rintro e w1 ⟨rfl, hb1⟩
    clear f3
    go_wp2
    go_ret
    exact ⟨rfl, by (repeat (first | (with_reducible exact Below.refl _ _) | (with_reducible assumption) | (with_reducible refine below_al ?_) | (with_reducible refine below_dr ?_) | (with_reducible refine below_drN ?_) | (with_reducible refine below_set ?_ (by first | exact Nat.le_refl _ | (dsimp only; omega) | omega)) | (with_reducible refine below_tr (by with_reducible assumption) ?_)))⟩
  · have HF2 := Lib.hid (HF.out rfl)
    go_enter Try.func52, Try.ntmps52
    go_wp2_with fail
    refine HR.out.mono ?_
    rintro e w1 ⟨rfl, hb1⟩
    have f3 := G3.out _ hb1
    have Hb1 := Lib.hid hb1
    clear hb1
    go_wp2_with fail
    refine (HF2.out _ Hb1.out).mono ?_
    rintro e w2 ⟨rfl, hb2⟩
    go_wp2
    go_ret
    exact ⟨by first | rfl | simp, Hb1.out.trans (hb2.mono Hb1.out.size)⟩
set_option maxRecDepth 100000 in
set_option maxHeartbeats 1000000 in
theorem blocksCode_c (c : Int) (ts : List T4) (A : Option Addr) (cx : Nat) (L : List (List Int)) (B : Option Addr) (cr : Nat) (k : FuncId) (caps : Array Value) (fine : Bool) (w : World) (hk : ∀ args w, Sem.run Try.prog (callFunc k args) w = .ok (.enter k args) w)
    (hT : TileCells w A ts) (hl : ts.length ≤ 1000000000) (hR : RowsC w B L) (hn : L.length ≤ 1000000000) (hS : Short 1000000000 L)
    (hf : isSetB c ts = true → areBlocksB ts.length L = true → ∀ w1, Below w.heap.size w w1 → Calls Try.prog k caps w1 fun e w2 => e = .returned (.bool fine) ∧ Below w1.heap.size w1 w2) :
    Calls Try.prog 25 #[.agg #[.int .i64 c, .slice A ts.length cx], .slice B L.length cr, .func (.func k) #[] caps] w fun e w' => e = .returned (.int .i64 (codeB (isSetB c ts) (areBlocksB ts.length L && fine))) ∧ Below w.heap.size w w' := by
  have HC := Lib.hid (fun (wq : World) (hwq : Below w.heap.size w wq) (b1 b2 b3 : Nat) h0 h1 h2 h3 => setCode_c c ts A cx 52 #[.pointer (some ⟨b1, 0, none⟩), .pointer (some ⟨b2, 0, none⟩), .pointer (some ⟨b3, 0, none⟩)] (areBlocksB ts.length L && fine) wq (fun _ _ => rfl) (hT.below hwq) hl
    (fun hs w1 hb => blocksCode1_c c A ts.length cx L B cr k caps fine b1 b2 b3 w1 hk ((hR.below hwq).below hb) (by have := (isSetB_small hs).2; omega) hn hS (keepC h0 _ hb) (keepC h1 _ hb) (keepC h2 _ hb) (keepC h3 _ hb)
      (fun ha w2 hb2 => hf hs ha w2 (hwq.trans ((hb.trans (hb2.mono hb.size)).mono hwq.size)))))
  clear hT hR hf
  go_enter Try.func25, Try.ntmps25
  go_wp2_with fail
  refine (HC.out _ (by (repeat (first | (with_reducible exact Below.refl _ _) | (with_reducible assumption) | (with_reducible refine below_al ?_) | (with_reducible refine below_dr ?_) | (with_reducible refine below_drN ?_) | (with_reducible refine below_set ?_ (by first | exact Nat.le_refl _ | (dsimp only; omega) | omega)) | (with_reducible refine below_tr (by with_reducible assumption) ?_)))) _ _ _ ?_ ?_ ?_ ?_).mono ?_
  · (repeat (first | (exact cell_al _ _ _ _ _ _ (by simp) rfl) | (refine cell_alloc_old _ _ _ _ _ ?_)))
  · (repeat (first | (exact cell_al _ _ _ _ _ _ (by simp) rfl) | (refine cell_alloc_old _ _ _ _ _ ?_)))
  · (repeat (first | (exact cell_al _ _ _ _ _ _ (by simp) rfl) | (refine cell_alloc_old _ _ _ _ _ ?_)))
  · (repeat (first | (exact cell_al _ _ _ _ _ _ (by simp) rfl) | (refine cell_alloc_old _ _ _ _ _ ?_)))
  rintro e w1 ⟨rfl, hb1⟩
  go_wp2
  go_ret
  exact ⟨rfl, by (repeat (first | (with_reducible exact Below.refl _ _) | (with_reducible assumption) | (with_reducible refine below_al ?_) | (with_reducible refine below_dr ?_) | (with_reducible refine below_drN ?_) | (with_reducible refine below_set ?_ (by first | exact Nat.le_refl _ | (dsimp only; omega) | omega)) | (with_reducible refine below_tr (by with_reducible assumption) ?_)))⟩
set_option maxRecDepth 100000 in
set_option maxHeartbeats 1000000 in
theorem always_c (w : World) : Calls Try.prog 31 #[] w fun e w' => e = .returned (.bool true) ∧ Below w.heap.size w w' := by
  go_enter Try.func31, Try.ntmps31
  go_wp2
  go_ret
  exact ⟨rfl, by (repeat (first | (with_reducible exact Below.refl _ _) | (with_reducible assumption) | (with_reducible refine below_al ?_) | (with_reducible refine below_dr ?_) | (with_reducible refine below_drN ?_) | (with_reducible refine below_set ?_ (by first | exact Nat.le_refl _ | (dsimp only; omega) | omega)) | (with_reducible refine below_tr (by with_reducible assumption) ?_)))⟩
theorem rowOk_bad {n : Nat} {row : List Int} {j : Nat} (hj : j < row.length) (h : inR 0 ((n : Int) - 1) row[j] = false) : rowOk n row = false := by
  unfold rowOk
  have : row.all (inR 0 ((n : Int) - 1)) = false := by
    rw [List.all_eq_false]
    exact ⟨row[j], List.getElem_mem hj, by simp [h]⟩
  simp [this]
theorem rowOk_good {n : Nat} {row : List Int} (hl : row.length = 4) (h : ∀ j (hj : j < row.length), inR 0 ((n : Int) - 1) row[j] = true) : rowOk n row = true := by
  unfold rowOk
  have : row.all (inR 0 ((n : Int) - 1)) = true := by
    rw [List.all_eq_true]
    intro x hx
    obtain ⟨j, hj, rfl⟩ := List.getElem_of_mem hx
    exact h j hj
  simp [this, hl]
set_option maxRecDepth 100000 in
set_option maxHeartbeats 1000000 in
theorem l09Code_c (c : Int) (ts : List T4) (A : Option Addr) (cx : Nat) (L : List (List Int)) (B : Option Addr) (cr : Nat) (w : World) (hT : TileCells w A ts) (hl : ts.length ≤ 1000000000) (hR : RowsC w B L) (hn : L.length ≤ 1000000000) (hS : Short 1000000000 L) :
    Calls Try.prog 42 #[.agg #[.int .i64 c, .slice A ts.length cx], .slice B L.length cr] w fun e w' => e = .returned (.int .i64 (codeB (isSetB c ts) (areBlocksB ts.length L))) ∧ Below w.heap.size w w' := by
  have H1 := Lib.hid (fun w h => l01Is_c c ts A cx w h hl)
  have HT := Lib.hid hT
  clear hT
  cases hs : isSetB c ts
  · rw [hs] at H1
    clear hR hs
    go_enter Try.func42, Try.ntmps42
    go_wp2_with fail
    refine (H1.out _ (HT.out.below (by (repeat (first | (with_reducible exact Below.refl _ _) | (with_reducible assumption) | (with_reducible refine below_al ?_) | (with_reducible refine below_dr ?_) | (with_reducible refine below_drN ?_) | (with_reducible refine below_set ?_ (by first | exact Nat.le_refl _ | (dsimp only; omega) | omega)) | (with_reducible refine below_tr (by with_reducible assumption) ?_)))))).mono ?_
    rintro e w1 ⟨rfl, hb1⟩
    have Hb1 := Lib.hid hb1
    have Hw1 : Hid (Below w.heap.size w w1) := by (show Below _ _ _); (repeat (first | (with_reducible exact Below.refl _ _) | (with_reducible assumption) | (with_reducible refine below_al ?_) | (with_reducible refine below_dr ?_) | (with_reducible refine below_drN ?_) | (with_reducible refine below_set ?_ (by first | exact Nat.le_refl _ | (dsimp only; omega) | omega)) | (with_reducible refine below_tr (by with_reducible assumption) ?_)))
    have d1 : w1.cell? ⟨w.heap.size, 1, none⟩ = some (.slice A ts.length cx) := by rw [(bcell hb1).1 _ _ (by simp)]; simp
    have hN : w.heap.size < w1.heap.size := by have := hb1.size; simp at this; omega
    clear hb1
    go_wp2
    go_ret
    exact ⟨rfl, Hw1.out⟩
  · rw [hs] at H1
    by_cases hq : L.length = ts.length
    · have hq1 : ((L.length : Int) != (ts.length : Int)) = false := by simp; omega
      have HQ := Lib.hid hq
      have h16 := (isSetB_small hs).2
      clear hs hq
      go_enter Try.func42, Try.ntmps42
      go_wp2_with fail
      refine (H1.out _ (HT.out.below (by (repeat (first | (with_reducible exact Below.refl _ _) | (with_reducible assumption) | (with_reducible refine below_al ?_) | (with_reducible refine below_dr ?_) | (with_reducible refine below_drN ?_) | (with_reducible refine below_set ?_ (by first | exact Nat.le_refl _ | (dsimp only; omega) | omega)) | (with_reducible refine below_tr (by with_reducible assumption) ?_)))))).mono ?_
      rintro e w1 ⟨rfl, hb1⟩
      have Hb1 := Lib.hid hb1
      have Hw1 : Hid (Below w.heap.size w w1) := by (show Below _ _ _); (repeat (first | (with_reducible exact Below.refl _ _) | (with_reducible assumption) | (with_reducible refine below_al ?_) | (with_reducible refine below_dr ?_) | (with_reducible refine below_drN ?_) | (with_reducible refine below_set ?_ (by first | exact Nat.le_refl _ | (dsimp only; omega) | omega)) | (with_reducible refine below_tr (by with_reducible assumption) ?_)))
      have d1 : w1.cell? ⟨w.heap.size, 1, none⟩ = some (.slice A ts.length cx) := by rw [(bcell hb1).1 _ _ (by simp)]; simp
      have hN : w.heap.size < w1.heap.size := by have := hb1.size; simp at this; omega
      clear hb1
      have HR1 := Lib.hid (hR.below Hw1.out)
      clear hR
      have D1 := keepC d1
      go_wp2_with fail
      go_loopw [5] (fun i wr => ∃ k : Nat, k ≤ L.length ∧ i = .int .i64 k ∧ Hid (∀ j (hj : j < L.length), j < k → rowOk ts.length L[j] = true) ∧ Below w1.heap.size w1 wr) (fun i _ => L.length - (intOf i).toNat)
      case atStart => exact ⟨0, by omega, rfl, fun j _ hj => by omega, Below.refl _ _⟩
      case round =>
        obtain ⟨k, hk, rfl, Hn, hbr⟩ := hrel
        have Hbr := Lib.hid hbr
        have d1 := D1 _ hbr
        by_cases h1 : k < L.length
        · obtain ⟨b, off, A1, c1, rfl, hlt, c0, r1⟩ := (HR1.out.below hbr) k h1
          have HBad := Lib.hid (areBlocksB_bad (n := ts.length) h1)
          have HE : Hid (rowOk ts.length L[k] = true → ∀ j (h1 : j < L.length), j < k + 1 → rowOk ts.length L[j] = true) := fun hE j h1 hj => by
            by_cases e : j = k
            · subst e; exact hE
            · exact Hn.out j h1 (by omega)
          have hrb := fun (j : Nat) (hj : j < (L[k]'h1).length) (hz : inR 0 ((ts.length : Int) - 1) (L[k]'h1)[j] = false) => rowOk_bad (n := ts.length) (row := (L[k]'h1)) (j := j) hj hz
          have hrg := fun hl hz => rowOk_good (n := ts.length) (row := (L[k]'h1)) hl hz
          have HRB := Lib.hid hrb
          have HRG := Lib.hid hrg
          have h4q : Hid (¬ L[k].length = 4 → rowOk ts.length L[k] = false) := fun h => by unfold rowOk; simp [h]
          clear hrb hrg
          generalize L[k] = row at *
          by_cases h4 : row.length = 4
          · have h4' : ((row.length : Int) != 4) = false := by simp; omega
            have HL4 := Lib.hid h4
            have R1 := Lib.hid r1
            clear r1 hbr d1
            have C0 := keepC c0
            go_wp2_with fail
            go_loopw [6] (fun i wq => ∃ m : Nat, m ≤ 4 ∧ i = .int .i64 m ∧ Hid (∀ j (hj : j < row.length), j < m → inR 0 ((ts.length : Int) - 1) row[j] = true) ∧ Below wr.heap.size wr wq) (fun i _ => 4 - (intOf i).toNat)
            case atStart => exact ⟨0, by omega, rfl, fun j _ hj => by omega, Below.refl _ _⟩
            case round =>
              obtain ⟨m, hm, rfl, Hm, hbq⟩ := hrel
              have Hbq := Lib.hid hbq
              by_cases hm4 : m < 4
              · have hm5 : m < row.length := by omega
                obtain ⟨b2, off2, rfl, hlt2, e0⟩ := (R1.out.below hbq).int m hm5
                have qL : IntKind.i64.wrap ((ts.length : Int) - 1) = (ts.length : Int) - 1 := IntWalk.i64_in _ (by omega)
                have HN := Lib.hid (fun w => l01In_c row[m] 0 ((ts.length : Int) - 1) w)
                have HX := Lib.hid (HRB.out m hm5)
                have Hm2 : Hid (inR 0 ((ts.length : Int) - 1) row[m] = true → ∀ j (hj : j < row.length), j < m + 1 → inR 0 ((ts.length : Int) - 1) row[j] = true) := fun hE j h1 hj => by
                  by_cases e : j = m
                  · subst e; exact hE
                  · exact Hm.out j h1 (by omega)
                have g0 := keepC e0
                have g1 := keepC (C0 _ hbq)
                have g2 := keepC (D1 _ (Hbr.out.trans (hbq.mono Hbr.out.size)))
                generalize inR 0 ((ts.length : Int) - 1) row[m] = r at *
                generalize row[m] = x at *
                clear e0 hbq c0
                cases r
                · have HF := Lib.hid (HBad.out (HX.out rfl))
                  go_wp2_with fail
                  refine wp_region_add (fun w' => Below (wr).heap.size (wr) w') (by kernel_rfl) (by kernel_rfl) ((Below.refl _ _).drew) ?_
                  repeat (first
                    | (refine add_skip rfl (fun K' hK' => ?_); go_simp; refine hK' _ ?_; clear hK' K')
                    | (refine add_do (v := ?_) rfl (fun w1 hb => ?_) (fun K' hK' => ?_); rotate_left
                       · go_simp
                         first
                         | (with_reducible exact rfl)
                         | (with_reducible exact ⟨rfl, hb⟩)
                         | (with_reducible exact (addCall (((HN.out w1).mono fun e w' ⟨a, b⟩ => ⟨a, by subst b; exact Below.refl _ _⟩)) hb).2)
                         | exact (addCall (((HN.out w1).mono fun e w' ⟨a, b⟩ => ⟨a, by subst b; exact Below.refl _ _⟩)) hb).2
                         | exact rfl
                         | exact ⟨rfl, hb⟩
                       go_simp; refine hK' _ ?_; clear hK' K'))
                  refine add_nil ?_
                  intro wa hba
                  go_wp2
                  go_ret
                  exact ⟨by rw [HF.out]; rfl, by have h1 := Hw1.out; have h2 := Hbr.out; have h3 := Hbq.out; (repeat (first | (with_reducible exact Below.refl _ _) | (with_reducible assumption) | (with_reducible refine below_al ?_) | (with_reducible refine below_dr ?_) | (with_reducible refine below_drN ?_) | (with_reducible refine below_set ?_ (by first | exact Nat.le_refl _ | (dsimp only; omega) | omega)) | (with_reducible refine below_tr (by with_reducible assumption) ?_)))⟩
                · have HF := Lib.hid (Hm2.out rfl)
                  go_wp2_with fail
                  refine wp_region_add (fun w' => Below (wr).heap.size (wr) w') (by kernel_rfl) (by kernel_rfl) ((Below.refl _ _).drew) ?_
                  repeat (first
                    | (refine add_skip rfl (fun K' hK' => ?_); go_simp; refine hK' _ ?_; clear hK' K')
                    | (refine add_do (v := ?_) rfl (fun w1 hb => ?_) (fun K' hK' => ?_); rotate_left
                       · go_simp
                         first
                         | (with_reducible exact rfl)
                         | (with_reducible exact ⟨rfl, hb⟩)
                         | (with_reducible exact (addCall (((HN.out w1).mono fun e w' ⟨a, b⟩ => ⟨a, by subst b; exact Below.refl _ _⟩)) hb).2)
                         | exact (addCall (((HN.out w1).mono fun e w' ⟨a, b⟩ => ⟨a, by subst b; exact Below.refl _ _⟩)) hb).2
                         | exact rfl
                         | exact ⟨rfl, hb⟩
                       go_simp; refine hK' _ ?_; clear hK' K'))
                  refine add_nil ?_
                  intro wa hba
                  go_wp2
                  go_roundw
                  case rel => exact ⟨m + 1, by omega, by go_num, HF, Hbq.out.trans (hba.mono Hbq.out.size)⟩
                  case measure => simp [intOf]; omega
              · have HF := Lib.hid (HE.out (HRG.out HL4.out (fun j hj => Hm.out j hj (by have := HL4.out; omega))))
                go_wp2
                go_roundw
                case rel => exact ⟨k + 1, by omega, by go_num, HF, Hbr.out.trans (Hbq.out.mono Hbr.out.size)⟩
                case measure => simp [intOf]; omega
          · have h4' : ((row.length : Int) != 4) = true := by simp; omega
            have HF := Lib.hid (HBad.out (h4q.out h4))
            clear h4 r1 hbr
            go_wp2
            go_ret
            exact ⟨by rw [HF.out]; rfl, by have h1 := Hw1.out; have h2 := Hbr.out; (repeat (first | (with_reducible exact Below.refl _ _) | (with_reducible assumption) | (with_reducible refine below_al ?_) | (with_reducible refine below_dr ?_) | (with_reducible refine below_drN ?_) | (with_reducible refine below_set ?_ (by first | exact Nat.le_refl _ | (dsimp only; omega) | omega)) | (with_reducible refine below_tr (by with_reducible assumption) ?_)))⟩
        · have HF : Hid (areBlocksB ts.length L = true) := by rw [Hid, areBlocksB_all (fun j hj => Hn.out j hj (by omega))]; simp [HQ.out]
          clear hbr
          go_wp2
          go_ret
          exact ⟨by rw [HF.out]; rfl, by have h1 := Hw1.out; have h2 := Hbr.out; (repeat (first | (with_reducible exact Below.refl _ _) | (with_reducible assumption) | (with_reducible refine below_al ?_) | (with_reducible refine below_dr ?_) | (with_reducible refine below_drN ?_) | (with_reducible refine below_set ?_ (by first | exact Nat.le_refl _ | (dsimp only; omega) | omega)) | (with_reducible refine below_tr (by with_reducible assumption) ?_)))⟩
    · have hq1 : ((L.length : Int) != (ts.length : Int)) = true := by simp; omega
      have HF : Hid (areBlocksB ts.length L = false) := by unfold Hid areBlocksB; simp [hq]
      clear hs hq hR
      go_enter Try.func42, Try.ntmps42
      go_wp2_with fail
      refine (H1.out _ (HT.out.below (by (repeat (first | (with_reducible exact Below.refl _ _) | (with_reducible assumption) | (with_reducible refine below_al ?_) | (with_reducible refine below_dr ?_) | (with_reducible refine below_drN ?_) | (with_reducible refine below_set ?_ (by first | exact Nat.le_refl _ | (dsimp only; omega) | omega)) | (with_reducible refine below_tr (by with_reducible assumption) ?_)))))).mono ?_
      rintro e w1 ⟨rfl, hb1⟩
      have Hb1 := Lib.hid hb1
      have Hw1 : Hid (Below w.heap.size w w1) := by (show Below _ _ _); (repeat (first | (with_reducible exact Below.refl _ _) | (with_reducible assumption) | (with_reducible refine below_al ?_) | (with_reducible refine below_dr ?_) | (with_reducible refine below_drN ?_) | (with_reducible refine below_set ?_ (by first | exact Nat.le_refl _ | (dsimp only; omega) | omega)) | (with_reducible refine below_tr (by with_reducible assumption) ?_)))
      have d1 : w1.cell? ⟨w.heap.size, 1, none⟩ = some (.slice A ts.length cx) := by rw [(bcell hb1).1 _ _ (by simp)]; simp
      have hN : w.heap.size < w1.heap.size := by have := hb1.size; simp at this; omega
      clear hb1
      go_wp2
      go_ret
      exact ⟨by rw [HF.out]; rfl, Hw1.out⟩

end Go.Proofs.Ytkgnejhflnekaaa
