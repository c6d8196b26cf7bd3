/- Contracts and lemmas for the statements of this seat, written for this claim; each theorem states its own conditions. -/
import Derived.Test.YtpcooplalncdcaaWfW2
set_option linter.unusedVariables false
set_option linter.unusedSimpArgs false
namespace Go.Proofs.Ytpcooplalncdcaa
open Go.RowKit
theorem make_i64 (n : Nat) (h : n ≤ 1000000000) (w : World) : (Instr.makeSlice 25 (.int .i64 (n : Int)) (.int .i64 (n : Int))).run Try.prog w = .ok (.slice (some ⟨w.heap.size, 0, none⟩) n n) (w.alloc (.cells (madeCells #[.int .i64 0] n) 2)) := by
  have := make_k (P := Try.prog) 25 2 _ 1 8 Try.underlying25 infoInt n (by omega) (by omega) w
  rw [Nat.mul_one] at this
  exact this
def repI (n k : Nat) : List Int := List.replicate k 1 ++ List.replicate (n - k) 0
theorem repI_len {n k : Nat} (h : k ≤ n) : (repI n k).length = n := by simp [repI]; omega
theorem repI_put {n k m : Nat} (h : k + m ≤ n) : (ints (repI n k)).take k ++ ints (List.replicate m 1) ++ (ints (repI n k)).drop (k + m) = ints (repI n (k + m)) := by
  unfold ints repI
  rw [List.map_append, List.take_append_of_le_length (by simp), List.take_of_length_le (by simp), List.drop_append, List.drop_of_length_le (by simp)]
  simp only [List.length_map, List.length_replicate, List.nil_append, List.map_replicate, List.drop_replicate]
  rw [← List.replicate_append_replicate, show n - k - (k + m - k) = n - (k + m) by omega]
  simp only [List.map_append, List.map_replicate]
set_option maxRecDepth 100000 in
set_option maxHeartbeats 1000000 in
theorem copyI (w : World) (ty : TypeId) (b n k m cap : Nat) (a : Addr) (sLen sCap : Nat) (T : TypeId) (hB : Blk w b (ints (repI n k)) T) (hm : m = min sLen (n - k)) (hk : k ≤ n)
    (hsrc : ∀ j, j < m → w.cell? (a.add j) = some (.int .i64 1)) :
    (Builtin.copy_ #[25, 25] ty #[.slice (some ⟨b, k, none⟩) (n - k) cap, .slice (some a) sLen sCap]).run Try.prog w = .ok (goInt m) (w.setCells b k (ints (List.replicate m 1))) := by
  have h := run_copy_cells (P := Try.prog) w 25 25 ty 2 b k (n - k) cap a sLen sCap (ints (List.replicate m 1)) Try.underlying25 (by rw [show (fun i : TypeInfo => i.size) = (fun i => i.size) from rfl]; kernel_rfl) (by simp [ints]; exact hm)
    (fun j v hj => by
      by_cases hjm : j < m
      · simp [ints, hjm] at hj; rw [← hj]; exact hsrc j hjm
      · simp [ints, hjm] at hj)
    (fun j hj => by
      have hl : (ints (repI n k)).length = n := by rw [ints_length, repI_len hk]
      rw [hB.cell (k + j) (by rw [hl]; simp [ints] at hj; omega)]; rfl)
    (fun j _ => hB.frozen _) (fun v hv => by simp [ints] at hv; rw [hv.2]; rfl)
  simpa [ints] using h
theorem copyI_blk {w : World} {b n k m : Nat} {T : TypeId} (hB : Blk w b (ints (repI n k)) T) (h : k + m ≤ n) : Blk (w.setCells b k (ints (List.replicate m 1))) b (ints (repI n (k + m))) T := by
  have := setCells_blk (ints (List.replicate m 1)) k _ w hB (by simp [ints, repI]; omega)
  rw [show (ints (List.replicate m 1)).length = m by simp [ints], repI_put h] at this
  exact this
theorem repI_all (n : Nat) : repI n n = List.replicate n 1 := by simp [repI]
theorem Blk.ownI_ {w : World} {b B : Nat} {xs : List Int} (h : Blk w b (ints xs) 2) (hB : B ≤ b) (hl : xs.length ≤ 1000000000) : OwnI w B (.slice (some ⟨b, 0, none⟩) xs.length xs.length) xs := by
  refine ⟨by rw [ints_length, Nat.mul_one], .inr ⟨b, xs.length, (ints xs).toArray, rfl, hB, h, Nat.le_refl _, by simp [maxLen]; omega, by simp [ints_length], ?_⟩⟩
  rw [Nat.mul_one]
  exact List.take_of_length_le (by rw [ints_length]; exact Nat.le_refl _)
set_option maxRecDepth 100000 in
set_option maxHeartbeats 1000000 in
theorem repeatI_c (n : Nat) (g0 : Nat) (w : World) (h1 : 1 ≤ n) (h2 : n ≤ 1000000) (hc : w.cell? ⟨g0, 0, none⟩ = some (.int .i64 1)) :
    Calls Try.prog 69 #[.slice (some ⟨g0, 0, none⟩) 1 1, .int .i64 n] w fun e w' => ∃ v, e = .returned v ∧ OwnI w' w.heap.size v (List.replicate n 1) ∧ Below w.heap.size w w' := by
  have hm := fun w => make_i64 n (by omega) w
  have HMul := Lib.hid (fun w => bitsMul_c n w (by omega) (by omega))
  have hB0 : Blk (w.alloc (.cells (madeCells #[.int .i64 0] n) 2)) w.heap.size (ints (repI n 0)) 2 := by
    have h := Blk.newA w (madeCells #[.int .i64 0] n) 2
    rw [toList_madeCells_one] at h
    simpa [ints, repI] using h
  have hcp := copyI (w.alloc (.cells (madeCells #[.int .i64 0] n) 2)) 3 w.heap.size n 0 1 n ⟨g0, 0, none⟩ 1 1 2 hB0 (by omega) (by omega) (fun j hj => by
    obtain rfl : j = 0 := by omega
    simpa [Addr.add] using cell_alloc_old _ _ _ _ _ hc)
  rw [Nat.sub_zero] at hcp
  have HB1 := Lib.hid (copyI_blk (m := 1) hB0 (by omega))
  have HBel := Lib.hid (setCells_below (b := w.heap.size) (ints (List.replicate 1 1)) 0 w (w.alloc (.cells (madeCells #[.int .i64 0] n) 2)) (below_al (Below.refl _ _)) (Nat.le_refl _))
  clear hB0 hc
  go_enter Try.func69, Try.ntmps69
  go_wp2_with fail
  refine (HMul.out _).mono ?_
  rintro e w1 ⟨rfl, rfl⟩
  go_wp2_with fail
  go_loopw [8] (fun i wr => ∃ k : Nat, 1 ≤ k ∧ k ≤ n ∧ i = .int .i64 k ∧ Hid (Blk wr w.heap.size (ints (repI n k)) 2) ∧ Hid (Below w.heap.size w wr)) (fun i _ => n - (intOf i).toNat)
  case atStart => exact ⟨1, by omega, by omega, rfl, HB1, HBel⟩
  case round =>
    obtain ⟨k, hk1, hk, rfl, HB, Hb⟩ := hrel
    by_cases hkn : k < n
    · go_wp2_with fail
      have hcp2 := copyI wr.drew 3 w.heap.size n k (min k (n - k)) (n - k) ⟨w.heap.size, 0, none⟩ k n 2 HB.out.drew (by omega) (by omega) (fun j hj => by
        have hj2 : j < (ints (repI n k)).length := by rw [ints_length, repI_len hk]; omega
        have h9 := HB.out.drew.cell j hj2
        rw [add_off, Nat.zero_add, h9]
        have : j < k := by omega
        simp [ints, repI, List.getElem_append, this])
      obtain ⟨m, hm⟩ : ∃ m, min k (n - k) = m := ⟨_, rfl⟩
      rw [hm] at hcp2
      have hm1 : 1 ≤ m := by omega
      have hm2 : k + m ≤ n := by omega
      have HB2 := Lib.hid (copyI_blk (m := m) HB.out.drew hm2)
      have HBl := Lib.hid (setCells_below (b := w.heap.size) (ints (List.replicate m 1)) k w wr.drew Hb.out.drew (Nat.le_refl _))
      have hnk : ¬ n = k := by omega
      have hwk : IntKind.i64.wrap ((k : Int) + (m : Int)) = ((k + m : Nat) : Int) := by rw [IntWalk.i64_in _ (by omega)]; omega
      clear hm
      refine wp_region_mix [(0, true), (1, true), (2, true), (3, true), (4, true), (5, true), (6, true), (7, false), (8, true), (9, true)] (fun w' => True) (by kernel_rfl) (by kernel_rfl) (fun _ _ d _ _ h => by cases d <;> exact h) (trivial) ?_
      repeat (first
        | (refine mix_skip rfl rfl (fun K' hK' => ?_); go_simp; refine hK' _ ?_; clear hK' K')
        | (refine mix_do (v := ?_) rfl rfl (fun w1 hb => ?_) (fun K' hK' => ?_); rotate_left
           · go_simp
             rfl
           go_simp; refine hK' _ ?_; clear hK' K'))
      refine mix_call rfl rfl (fun K' hK' => ?_)
      go_simp
      refine hK' _ _ (trivial) ?_; clear hK' K'
      repeat (first
        | (refine mix_skip rfl rfl (fun K' hK' => ?_); go_simp; refine hK' _ ?_; clear hK' K')
        | (refine mix_do (v := ?_) rfl rfl (fun w1 hb => ?_) (fun K' hK' => ?_); rotate_left
           · go_simp
             rfl
           go_simp; refine hK' _ ?_; clear hK' K'))
      refine mix_nil ?_
      go_wp2
      go_roundw
      case rel => exact ⟨k + m, by omega, by omega, by go_num, HB2, HBl⟩
      case measure => simp [intOf]; omega
    · obtain rfl : k = n := by omega
      have HO := Lib.hid (Blk.ownI_ (B := w.heap.size) (xs := repI k k) HB.out (Nat.le_refl _) (by simp [repI]; omega))
      rw [repI_all, List.length_replicate] at HO
      go_wp2
      go_ret
      exact ⟨_, rfl, HO.out, Hb.out⟩

end Go.Proofs.Ytpcooplalncdcaa
