/- Contracts and lemmas for the statements of this seat, written for this claim; each theorem states its own conditions. -/
import Derived.Test.YtfkmophmiiehlaaVpRo
import Derived.Test.YtfkmophmiiehlaaVpCo
set_option linter.unusedVariables false
set_option linter.unusedSimpArgs false
namespace Go.Proofs.Ytfkmophmiiehlaa
open Go.RowKit
def rowOk (n : Nat) (row : List Int) : Bool := row.length == 4 && row.all (inR 0 ((n : Int) - 1))
def areBlocksB (n : Nat) (L : List (List Int)) : Bool := L.all (rowOk n) && L.length == n
theorem areBlocksB_bad {n : Nat} {L : List (List Int)} {k : Nat} (hk : k < L.length) (h : rowOk n L[k] = false) : areBlocksB n L = false := by
  unfold areBlocksB
  have : L.all (rowOk n) = false := by
    rw [List.all_eq_false]
    exact ⟨L[k], List.getElem_mem hk, by simp [h]⟩
  simp [this]
theorem areBlocksB_all {n : Nat} {L : List (List Int)} (h : ∀ j (hj : j < L.length), rowOk n L[j] = true) : areBlocksB n L = (L.length == n) := by
  unfold areBlocksB
  have : L.all (rowOk n) = true := by
    rw [List.all_eq_true]
    intro x hx
    obtain ⟨j, hj, rfl⟩ := List.getElem_of_mem hx
    exact h j hj
  simp [this]
/-- blocks: as many as tiles, each of four numbers of tiles -/
def Blocks (n : Nat) (L : List (List Int)) : Prop := L.length = n ∧ ∀ k (h : k < L.length), ∃ hl : L[k].length = 4, ∀ j (hj : j < L[k].length), 0 ≤ L[k][j] ∧ L[k][j] < n
theorem areBlocksB_iff {n : Nat} {L : List (List Int)} (h : areBlocksB n L = true) : Blocks n L := by
  unfold areBlocksB at h
  rw [Bool.and_eq_true, List.all_eq_true] at h
  refine ⟨by simpa using h.2, fun k hk => ?_⟩
  have h1 := h.1 _ (List.getElem_mem hk)
  unfold rowOk at h1
  rw [Bool.and_eq_true, List.all_eq_true] at h1
  refine ⟨by simpa using h1.1, fun j hj => ?_⟩
  have h2 := h1.2 _ (List.getElem_mem hj)
  rw [inR_iff] at h2
  omega
set_option maxRecDepth 100000 in
set_option maxHeartbeats 1000000 in
theorem areBlocks1_c (c : Int) (A : Option Addr) (n cx : Nat) (x : Int) (b : Nat) (w : World) (hl : n ≤ 1000000000) (h0 : w.cell? ⟨b, 0, none⟩ = some (.int .i64 c)) (h1 : w.cell? ⟨b, 1, none⟩ = some (.slice A n cx)) :
    Calls Try.prog 181 #[.int .i64 x, .pointer (some ⟨b, 0, none⟩)] w fun e w' => e = .returned (.bool (!inR 0 ((n : Int) - 1) x)) ∧ Below w.heap.size w w' := by
  have H := Lib.hid (fun w => isNumber_c c A n cx x w hl)
  generalize inR 0 ((n : Int) - 1) x = r at *
  go_enter Try.func181, Try.ntmps181
  go_wp2_with fail
  refine (H.out _).mono ?_
  rintro e w1 ⟨rfl, hb1⟩
  go_wp2
  go_ret
  exact ⟨rfl, by (repeat (first | (with_reducible exact Below.refl _ _) | (with_reducible assumption) | (with_reducible refine below_al ?_) | (with_reducible refine below_dr ?_) | (with_reducible refine below_drN ?_) | (with_reducible refine below_set ?_ (by first | exact Nat.le_refl _ | (dsimp only; omega) | omega)) | (with_reducible refine below_tr (by with_reducible assumption) ?_)))⟩
theorem rowOk_eq {n : Nat} {row : List Int} : rowOk n row = (row.length == 4 && !row.any fun x => !inR 0 ((n : Int) - 1) x) := by
  unfold rowOk; congr 1; simp [List.any_eq_not_all_not]
set_option maxRecDepth 100000 in
set_option maxHeartbeats 1000000 in
theorem areBlocks_c (c : Int) (A : Option Addr) (n cx : Nat) (L : List (List Int)) (B : Option Addr) (cr : Nat) (w : World) (hR : RowsC w B L) (hl : n ≤ 1000000) (hn : L.length ≤ 1000000000) (hS : Short 1000000000 L) :
    Calls Try.prog 157 #[.agg #[.int .i64 c, .slice A n cx], .slice B L.length cr] w fun e w' => e = .returned (.bool (areBlocksB n L)) ∧ Below w.heap.size w w' := by
  go_enter Try.func157, Try.ntmps157
  go_wp2
  go_loopw [9] (fun i wr => ∃ k : Nat, k ≤ L.length ∧ i = .int .i64 k ∧ Hid (∀ j (hj : j < L.length), j < k → rowOk n L[j] = true) ∧ Below (w.heap.size + 1) (w.alloc (.cells #[.int .i64 c, .slice A n cx] 31)) wr) (fun i _ => L.length - (intOf i).toNat)
  case atStart => exact ⟨0, by omega, rfl, fun j _ hj => by omega, Below.refl _ _⟩
  case round =>
    obtain ⟨k, hk, rfl, Hn, hb⟩ := hrel
    have hbw : Below w.heap.size w wr := (((Below.refl w.heap.size w).alloc (Nat.le_refl _) _).trans (hb.mono (by omega)))
    have Hbw := Lib.hid hbw
    have Hb3 := Lib.hid hb
    have d0 : wr.cell? ⟨w.heap.size, 0, none⟩ = some (.int .i64 c) := (hb.cell (p := ⟨w.heap.size, 0, none⟩) (by simp)).trans (by simp)
    have d1 : wr.cell? ⟨w.heap.size, 1, none⟩ = some (.slice A n cx) := (hb.cell (p := ⟨w.heap.size, 1, none⟩) (by simp)).trans (by simp)
    have hN : w.heap.size < wr.heap.size := by have := hb.size; simp at this; omega
    by_cases h1 : k < L.length
    · obtain ⟨b, off, A1, c1, rfl, hlt, c0, r1⟩ := (hR.below hbw) k h1
      have HBad := Lib.hid (areBlocksB_bad (n := n) h1)
      have HE : Hid (rowOk n L[k] = true → ∀ j (h1 : j < L.length), j < k + 1 → rowOk n L[j] = true) := fun hE j h1 hj => by
        by_cases e : j = k
        · subst e; exact hE
        · exact Hn.out j h1 (by omega)
      have HQ := Lib.hid (rowOk_eq (n := n) (row := L[k]))
      have R1 := Lib.hid r1
      have hk9 := hS k h1
      have G0 := Lib.hid (keepC d0)
      have G1 := Lib.hid (keepC d1)
      clear hR hbw hb r1 hS
      generalize L[k] = row at *
      have HC := Lib.hid (fun wq h => containsFuncI_c row A1 c1 181 #[.pointer (some ⟨w.heap.size, 0, none⟩)] (fun x => !inR 0 ((n : Int) - 1) x) wq (fun _ _ => rfl) (R1.out.below h) hk9
        (fun x _ w1 hb => areBlocks1_c c A n cx x w.heap.size w1 (by omega) (G0.out _ ((h : Below wr.heap.size wr wq).trans (hb.mono h.size))) (G1.out _ (h.trans (hb.mono h.size)))))
      clear G0 G1
      by_cases h4 : row.length = 4
      · have h4' : ((row.length : Int) != 4) = false := by simp; omega
        generalize hq : (row.any fun x => !inR 0 ((n : Int) - 1) x) = q at *
        clear hq
        have hq2 : rowOk n row = !q := by rw [HQ.out]; simp [h4]
        cases q
        · have HF := Lib.hid (HE.out (by rw [hq2]; rfl))
          clear HE hq2 HBad h4
          go_wp2_with fail
          refine (HC.out _ (by (repeat (first | (with_reducible exact Below.refl _ _) | (with_reducible assumption) | (with_reducible refine below_al ?_) | (with_reducible refine below_dr ?_) | (with_reducible refine below_drN ?_) | (with_reducible refine below_set ?_ (by first | exact Nat.le_refl _ | (dsimp only; omega) | omega)) | (with_reducible refine below_tr (by with_reducible assumption) ?_))))).mono ?_
          rintro e w1 ⟨rfl, hb1⟩
          go_wp2
          go_roundw
          case rel => exact ⟨k + 1, by omega, by go_num, HF, by have h3 := Hb3.out; exact h3.trans ((show Below wr.heap.size wr _ by (repeat (first | (with_reducible exact Below.refl _ _) | (with_reducible assumption) | (with_reducible refine below_al ?_) | (with_reducible refine below_dr ?_) | (with_reducible refine below_drN ?_) | (with_reducible refine below_set ?_ (by first | exact Nat.le_refl _ | (dsimp only; omega) | omega)) | (with_reducible refine below_tr (by with_reducible assumption) ?_)))).mono (by omega))⟩
          case measure => simp [intOf]; omega
        · have HF := Lib.hid (HBad.out (by rw [hq2]; rfl))
          clear HE hq2 HBad h4
          go_wp2_with fail
          refine (HC.out _ (by (repeat (first | (with_reducible exact Below.refl _ _) | (with_reducible assumption) | (with_reducible refine below_al ?_) | (with_reducible refine below_dr ?_) | (with_reducible refine below_drN ?_) | (with_reducible refine below_set ?_ (by first | exact Nat.le_refl _ | (dsimp only; omega) | omega)) | (with_reducible refine below_tr (by with_reducible assumption) ?_))))).mono ?_
          rintro e w1 ⟨rfl, hb1⟩
          go_wp2
          go_ret
          exact ⟨ret_bool HF.out.symm, by have h2 := Hbw.out; (repeat (first | (with_reducible exact Below.refl _ _) | (with_reducible assumption) | (with_reducible refine below_al ?_) | (with_reducible refine below_dr ?_) | (with_reducible refine below_drN ?_) | (with_reducible refine below_set ?_ (by first | exact Nat.le_refl _ | (dsimp only; omega) | omega)) | (with_reducible refine below_tr (by with_reducible assumption) ?_)))⟩
      · have h4' : ((row.length : Int) != 4) = true := by simp; omega
        have HF := Lib.hid (HBad.out (by rw [HQ.out]; simp [h4]))
        clear h4
        go_wp2
        go_ret
        exact ⟨ret_bool HF.out.symm, Hbw.out⟩
    · have hfin := Lib.hid (areBlocksB_all (n := n) (L := L) (fun j hj => Hn.out j hj (by omega)))
      clear hR hb hbw hS
      by_cases he : L.length = n
      · have he' : ((L.length : Int) == (n : Int)) = true := by simp; omega
        have HF : Hid (areBlocksB n L = true) := by rw [Hid, hfin.out]; simp [he]
        clear he
        go_wp2
        go_ret
        exact ⟨ret_bool HF.out.symm, Hbw.out⟩
      · have he' : ((L.length : Int) == (n : Int)) = false := by simp; omega
        have HF : Hid (areBlocksB n L = false) := by rw [Hid, hfin.out]; simp [he]
        clear he
        go_wp2
        go_ret
        exact ⟨ret_bool HF.out.symm, Hbw.out⟩

end Go.Proofs.Ytfkmophmiiehlaa
