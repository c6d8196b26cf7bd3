/- Contracts and lemmas for the statements of this seat, written for this claim; each theorem states its own conditions. -/
import Derived.Test.YtdhcmchpbofioaaSbOo
set_option linter.unusedVariables false
set_option linter.unusedSimpArgs false
namespace Go.Proofs.Ytdhcmchpbofioaa
open Go.RowKit
attribute [local go_sem] addUpon_value addUpon_skip addUpon_enter
set_option maxRecDepth 100000 in
set_option maxHeartbeats 1000000 in
theorem l09Equal_c (x0 x1 x2 x3 y0 y1 y2 y3 : Int) (A B : Option Addr) (cx cy : Nat) (w : World) (hx : Cells w A (ints [x0, x1, x2, x3])) (hy : Cells w B (ints [y0, y1, y2, y3])) :
    Calls Try.prog 33 #[.slice A 4 cx, .slice B 4 cy] w fun e w' => e = .returned (.bool (eqI [x0, x1, x2, x3] [y0, y1, y2, y3])) ∧ Below w.heap.size w w' := by
  obtain ⟨b, off, rfl, hlt, c0⟩ := hx.int 0 (by simp)
  obtain ⟨b', off', rfl, hlt', d0⟩ := hy.int 0 (by simp)
  have at_ : ∀ (b off : Nat) (xs : List Int), Cells w (some ⟨b, off, none⟩) (ints xs) → ∀ j (h : j < xs.length), w.cell? ⟨b, off + j, none⟩ = some (.int .i64 xs[j]) := fun b off xs h j hj => by
    obtain ⟨b2, off2, e2, _, hc⟩ := h.int j hj
    injection e2 with e2
    injection e2 with e3 e4
    subst e3 e4
    exact hc
  have f0 := keepC c0
  have f1 := keepC (at_ _ _ _ hx 1 (by simp))
  have f2 := keepC (at_ _ _ _ hx 2 (by simp))
  have f3 := keepC (at_ _ _ _ hx 3 (by simp))
  have g0 := keepC d0
  have g1 := keepC (at_ _ _ _ hy 1 (by simp))
  have g2 := keepC (at_ _ _ _ hy 2 (by simp))
  have g3 := keepC (at_ _ _ _ hy 3 (by simp))
  simp only [Nat.add_zero, List.getElem_cons_zero, List.getElem_cons_succ] at f0 f1 f2 f3 g0 g1 g2 g3
  have hr : eqI [x0, x1, x2, x3] [y0, y1, y2, y3] = (x0 == y0 && x1 == y1 && x2 == y2 && x3 == y3) := by
    unfold eqI; simp [Bool.and_assoc]
    by_cases a0 : x0 = y0 <;> by_cases a1 : x1 = y1 <;> by_cases a2 : x2 = y2 <;> by_cases a3 : x3 = y3 <;> simp [a0, a1, a2, a3]
  have HR := Lib.hid hr
  clear hr c0 d0 hx hy at_
  cases h0 : (x0 == y0)
  · have HF : Hid (eqI [x0, x1, x2, x3] [y0, y1, y2, y3] = false) := by rw [Hid, HR.out, h0]; rfl
    go_enter Try.func33, Try.ntmps33
    go_wp2_with fail
    refine wp_region_add (fun w' => Below (w).heap.size (w) w') (by kernel_rfl) (by kernel_rfl) ((Below.refl _ _).drew) ?_
    repeat (first
      | (refine add_skip rfl (fun K' hK' => ?_); go_simp; refine hK' _ ?_; clear hK' K')
      | (refine add_do (v := ?_) rfl (fun w1 hb => ?_) (fun K' hK' => ?_); rotate_left
         · go_simp
           first
           | (with_reducible exact rfl)
           | (with_reducible exact ⟨rfl, hb⟩)
           | exact rfl
           | exact ⟨rfl, hb⟩
         go_simp; refine hK' _ ?_; clear hK' K'))
    refine add_nil ?_
    intro wa hba
    go_wp2
    go_ret
    exact ⟨ret_bool HF.out.symm, by (repeat (first | (with_reducible exact Below.refl _ _) | (with_reducible assumption) | (with_reducible refine below_al ?_) | (with_reducible refine below_dr ?_) | (with_reducible refine below_drN ?_) | (with_reducible refine below_set ?_ (by first | exact Nat.le_refl _ | (dsimp only; omega) | omega)) | (with_reducible refine below_tr (by with_reducible assumption) ?_)))⟩
  · cases h1 : (x1 == y1)
    · have HF : Hid (eqI [x0, x1, x2, x3] [y0, y1, y2, y3] = false) := by rw [Hid, HR.out, h0, h1]; rfl
      go_enter Try.func33, Try.ntmps33
      go_wp2_with fail
      refine wp_region_add (fun w' => Below (w).heap.size (w) w') (by kernel_rfl) (by kernel_rfl) ((Below.refl _ _).drew) ?_
      repeat (first
        | (refine add_skip rfl (fun K' hK' => ?_); go_simp; refine hK' _ ?_; clear hK' K')
        | (refine add_do (v := ?_) rfl (fun w1 hb => ?_) (fun K' hK' => ?_); rotate_left
           · go_simp
             first
             | (with_reducible exact rfl)
             | (with_reducible exact ⟨rfl, hb⟩)
             | exact rfl
             | exact ⟨rfl, hb⟩
           go_simp; refine hK' _ ?_; clear hK' K'))
      refine add_nil ?_
      intro wa hba
      go_wp2
      go_ret
      exact ⟨ret_bool HF.out.symm, by (repeat (first | (with_reducible exact Below.refl _ _) | (with_reducible assumption) | (with_reducible refine below_al ?_) | (with_reducible refine below_dr ?_) | (with_reducible refine below_drN ?_) | (with_reducible refine below_set ?_ (by first | exact Nat.le_refl _ | (dsimp only; omega) | omega)) | (with_reducible refine below_tr (by with_reducible assumption) ?_)))⟩
    · cases h2 : (x2 == y2)
      · have HF : Hid (eqI [x0, x1, x2, x3] [y0, y1, y2, y3] = false) := by rw [Hid, HR.out, h0, h1, h2]; rfl
        go_enter Try.func33, Try.ntmps33
        go_wp2_with fail
        refine wp_region_add (fun w' => Below (w).heap.size (w) w') (by kernel_rfl) (by kernel_rfl) ((Below.refl _ _).drew) ?_
        repeat (first
          | (refine add_skip rfl (fun K' hK' => ?_); go_simp; refine hK' _ ?_; clear hK' K')
          | (refine add_do (v := ?_) rfl (fun w1 hb => ?_) (fun K' hK' => ?_); rotate_left
             · go_simp
               first
               | (with_reducible exact rfl)
               | (with_reducible exact ⟨rfl, hb⟩)
               | exact rfl
               | exact ⟨rfl, hb⟩
             go_simp; refine hK' _ ?_; clear hK' K'))
        refine add_nil ?_
        intro wa hba
        go_wp2
        go_ret
        exact ⟨ret_bool HF.out.symm, by (repeat (first | (with_reducible exact Below.refl _ _) | (with_reducible assumption) | (with_reducible refine below_al ?_) | (with_reducible refine below_dr ?_) | (with_reducible refine below_drN ?_) | (with_reducible refine below_set ?_ (by first | exact Nat.le_refl _ | (dsimp only; omega) | omega)) | (with_reducible refine below_tr (by with_reducible assumption) ?_)))⟩
      · have HF : Hid (eqI [x0, x1, x2, x3] [y0, y1, y2, y3] = (x3 == y3)) := by rw [Hid, HR.out, h0, h1, h2]; rfl
        go_enter Try.func33, Try.ntmps33
        go_wp2_with fail
        refine wp_region_add (fun w' => Below (w).heap.size (w) w') (by kernel_rfl) (by kernel_rfl) ((Below.refl _ _).drew) ?_
        repeat (first
          | (refine add_skip rfl (fun K' hK' => ?_); go_simp; refine hK' _ ?_; clear hK' K')
          | (refine add_do (v := ?_) rfl (fun w1 hb => ?_) (fun K' hK' => ?_); rotate_left
             · go_simp
               first
               | (with_reducible exact rfl)
               | (with_reducible exact ⟨rfl, hb⟩)
               | exact rfl
               | exact ⟨rfl, hb⟩
             go_simp; refine hK' _ ?_; clear hK' K'))
        refine add_nil ?_
        intro wa hba
        go_wp2
        go_ret
        exact ⟨ret_bool HF.out.symm, by (repeat (first | (with_reducible exact Below.refl _ _) | (with_reducible assumption) | (with_reducible refine below_al ?_) | (with_reducible refine below_dr ?_) | (with_reducible refine below_drN ?_) | (with_reducible refine below_set ?_ (by first | exact Nat.le_refl _ | (dsimp only; omega) | omega)) | (with_reducible refine below_tr (by with_reducible assumption) ?_)))⟩
theorem list4 {xs : List Int} (h : xs.length = 4) : ∃ a b c d, xs = [a, b, c, d] := by
  match xs, h with
  | [a, b, c, d], _ => exact ⟨a, b, c, d, rfl⟩
set_option maxRecDepth 100000 in
set_option maxHeartbeats 1000000 in
theorem l09EqualL_c (xs ys : List Int) (A B : Option Addr) (cx cy : Nat) (w : World) (hx : Cells w A (ints xs)) (hy : Cells w B (ints ys)) (lx : xs.length = 4) (ly : ys.length = 4) :
    Calls Try.prog 33 #[.slice A xs.length cx, .slice B ys.length cy] w fun e w' => e = .returned (.bool (eqI xs ys)) ∧ Below w.heap.size w w' := by
  obtain ⟨x0, x1, x2, x3, rfl⟩ := list4 lx
  obtain ⟨y0, y1, y2, y3, rfl⟩ := list4 ly
  exact l09Equal_c x0 x1 x2 x3 y0 y1 y2 y3 A B cx cy w hx hy
end Go.Proofs.Ytdhcmchpbofioaa
