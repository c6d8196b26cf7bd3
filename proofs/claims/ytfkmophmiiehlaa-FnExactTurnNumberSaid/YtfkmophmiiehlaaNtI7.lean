/- Contracts and lemmas for the statements of this seat, written for this claim; each theorem states its own conditions. -/
import Derived.Test.YtfkmophmiiehlaaNtI6
set_option linter.unusedVariables false
set_option linter.unusedSimpArgs false
namespace Go.Proofs.Ytfkmophmiiehlaa
open Go.RowKit
attribute [local go_sem] addUpon_value addUpon_skip addUpon_enter
set_option maxRecDepth 100000 in
set_option maxHeartbeats 1000000 in
theorem l07Turn_c (t : T4) (n : Nat) (hn : n ≤ 1000) (w : World) :
    Calls Try.prog 63 #[.agg #[.int .i64 t.a, .int .i64 t.b, .int .i64 t.c, .int .i64 t.d], .int .i64 n] w fun e w' => e = .returned (.agg #[.int .i64 (turnN t n).a, .int .i64 (turnN t n).b, .int .i64 (turnN t n).c, .int .i64 (turnN t n).d]) ∧ Below w.heap.size w w' := by
  go_enter Try.func63, Try.ntmps63
  go_wp2
  go_loopw [1] (fun i wr => ∃ k : Nat, k ≤ n ∧ i = .int .i64 ((n : Int) - k) ∧ Hid (Blk wr w.heap.size (ints (turnN t k).l) 57) ∧ Hid (Blk wr (w.heap.size + 1) (ints T4z.l) 57) ∧ Hid (Below w.heap.size w wr)) (fun i _ => (intOf i).toNat)
  case atStart =>
    refine ⟨0, by omega, by go_num, ?_, ?_, ?_⟩
    · exact (Blk.newA w #[.int .i64 t.a, .int .i64 t.b, .int .i64 t.c, .int .i64 t.d] 57).alloc _
    · have := Blk.newA (w.alloc (.cells #[.int .i64 t.a, .int .i64 t.b, .int .i64 t.c, .int .i64 t.d] 57)) #[.int .i64 0, .int .i64 0, .int .i64 0, .int .i64 0] 57
      rw [World.size_alloc] at this
      exact this
    · show Below w.heap.size w _
      (repeat (first | (with_reducible exact Below.refl _ _) | (with_reducible assumption) | (with_reducible refine below_al ?_) | (with_reducible refine below_dr ?_) | (with_reducible refine below_drN ?_) | (with_reducible refine below_set ?_ (by first | exact Nat.le_refl _ | (dsimp only; omega) | omega)) | (with_reducible refine below_tr (by with_reducible assumption) ?_)))
  case round =>
    obtain ⟨k, hk, rfl, hB, hZ, hb⟩ := hrel
    have HN := Lib.hid (show turnN t (k + 1) = turnT (turnN t k) from rfl)
    have HU := Lib.hid (show ∀ j, j = k → turnN t j = turnN t k from fun j h => by rw [h])
    generalize turnN t k = u at *
    have y0 := hB.out.cell 0 (by simp [ints, T4.l])
    have y1 := hB.out.cell 1 (by simp [ints, T4.l])
    have y2 := hB.out.cell 2 (by simp [ints, T4.l])
    have y3 := hB.out.cell 3 (by simp [ints, T4.l])
    have f0 := hB.out.frozen 0
    have f1 := hB.out.frozen 1
    have f2 := hB.out.frozen 2
    have f3 := hB.out.frozen 3
    have z0 := hZ.out.cell 0 (by simp [ints, T4.l])
    have z1 := hZ.out.cell 1 (by simp [ints, T4.l])
    have z2 := hZ.out.cell 2 (by simp [ints, T4.l])
    have z3 := hZ.out.cell 3 (by simp [ints, T4.l])
    have g0 := hZ.out.frozen 0
    have g1 := hZ.out.frozen 1
    have g2 := hZ.out.frozen 2
    have g3 := hZ.out.frozen 3
    simp only [ints, T4.l, T4z, List.map_cons, List.getElem_cons_zero, List.getElem_cons_succ] at y0 y1 y2 y3 z0 z1 z2 z3
    by_cases h1 : k < n
    · go_wp2
      go_roundw
      case rel =>
        refine ⟨k + 1, by omega, by go_num, ?_, ?_, ?_⟩
        · show Blk _ _ _ _
          rw [HN.out]
          exact (((hB.out.set 0 _).set 1 _).set 2 _).set 3 _
        · exact (((hZ.out.other (by simp) _).other (by simp) _).other (by simp) _).other (by simp) _
        · have hb := hb.out
          show Below w.heap.size w _
          (repeat (first | (with_reducible exact Below.refl _ _) | (with_reducible assumption) | (with_reducible refine below_al ?_) | (with_reducible refine below_dr ?_) | (with_reducible refine below_drN ?_) | (with_reducible refine below_set ?_ (by first | exact Nat.le_refl _ | (dsimp only; omega) | omega)) | (with_reducible refine below_tr (by with_reducible assumption) ?_)))
      case measure => simp [intOf]; omega
    · have HE := Lib.hid (HU.out n (by omega))
      obtain rfl : k = n := by omega
      go_wp2
      have hb' := hb.out
      rw [HE.out]
      refine bodyPost_ret (v := .agg #[.int .i64 u.a, .int .i64 u.b, .int .i64 u.c, .int .i64 u.d]) (by simp [results, Try.results63, go_sem, z0, z1, z2, z3]) rfl ⟨rfl, by (repeat (first | (with_reducible exact Below.refl _ _) | (with_reducible assumption) | (with_reducible refine below_al ?_) | (with_reducible refine below_dr ?_) | (with_reducible refine below_drN ?_) | (with_reducible refine below_set ?_ (by first | exact Nat.le_refl _ | (dsimp only; omega) | omega)) | (with_reducible refine below_tr (by with_reducible assumption) ?_)))⟩
theorem turnN4 (t : T4) : turnN t 4 = t := rfl
def turnNo (t : T4) : Nat := if turnN t 1 = t then 1 else if turnN t 2 = t then 2 else if turnN t 3 = t then 3 else 4
theorem turnNo_eq {t : T4} {k : Nat} (h1 : 1 ≤ k) (h4 : k ≤ 4) (hn : ∀ j, 1 ≤ j → j < k → turnN t j ≠ t) (he : turnN t k = t) : k = turnNo t := by
  unfold turnNo
  have : k = 1 ∨ k = 2 ∨ k = 3 ∨ k = 4 := by omega
  rcases this with rfl | rfl | rfl | rfl
  · rw [if_pos he]
  · rw [if_neg (hn 1 (by omega) (by omega)), if_pos he]
  · rw [if_neg (hn 1 (by omega) (by omega)), if_neg (hn 2 (by omega) (by omega)), if_pos he]
  · rw [if_neg (hn 1 (by omega) (by omega)), if_neg (hn 2 (by omega) (by omega)), if_neg (hn 3 (by omega) (by omega))]
theorem one_tile (w : World) (t : T4) (o : Array Value) (T : TypeId) (hb : ∀ j, j < 4 → w.cell? ⟨w.heap.size - 1, j, none⟩ = [Value.int .i64 t.a, .int .i64 t.b, .int .i64 t.c, .int .i64 t.d][j]?) (hs : 0 < w.heap.size) : TileCells w (some ⟨w.heap.size - 1, 0, none⟩) [t] := by
  intro k hk
  obtain rfl : k = 0 := by simp at hk; omega
  refine ⟨w.heap.size - 1, 0, rfl, by omega, ?_, ?_, ?_, ?_⟩
  · simpa using hb 0 (by omega)
  · simpa using hb 1 (by omega)
  · simpa using hb 2 (by omega)
  · simpa using hb 3 (by omega)
theorem new_tile (w : World) (t : T4) (T : TypeId) : TileCells (w.alloc (.cells #[.int .i64 t.a, .int .i64 t.b, .int .i64 t.c, .int .i64 t.d] T)) (some ⟨w.heap.size, 0, none⟩) [t] := by
  have h : Blk (w.alloc (.cells #[.int .i64 t.a, .int .i64 t.b, .int .i64 t.c, .int .i64 t.d] T)) w.heap.size (tcells [t]) T := Blk.newA w _ T
  exact h.tiles
set_option maxRecDepth 100000 in
set_option maxHeartbeats 1000000 in
theorem specTurnNumber_c (t : T4) (w : World) :
    Calls Try.prog 31 #[.agg #[.int .i64 t.a, .int .i64 t.b, .int .i64 t.c, .int .i64 t.d]] w fun e w' => e = .returned (if isTileB t 6 = true then .tuple #[.int .i64 (turnNo t : Nat), .int .i64 0] else .tuple #[.int .i64 0, .int .i64 2]) ∧ Below w.heap.size w w' := by
  have h0 : TileCells ((w.alloc (.cells #[.int .i64 t.a, .int .i64 t.b, .int .i64 t.c, .int .i64 t.d] 57)).alloc (.cells #[.int .i64 t.a, .int .i64 t.b, .int .i64 t.c, .int .i64 t.d] 57)) (some ⟨w.heap.size + 1, 0, none⟩) [t] := by
    have := new_tile (w.alloc (.cells #[.int .i64 t.a, .int .i64 t.b, .int .i64 t.c, .int .i64 t.d] 57)) t 57
    rw [World.size_alloc] at this
    exact this
  have ht := l07Tiles_c [t] _ 1 _ h0 (by simp)
  have hcode : tilesCode [t] = if isTileB t 6 = true then 0 else 2 := by simp [tilesCode]
  rw [hcode] at ht
  simp only [List.length_cons, List.length_nil, Nat.zero_add] at ht
  clear hcode h0
  go_enter Try.func31, Try.ntmps31
  cases htl : isTileB t 6
  · rw [htl] at ht
    simp only [Bool.false_eq_true, if_false] at ht ⊢
    clear htl
    have HT := Lib.hid ht
    clear ht
    go_wp2_with fail
    refine HT.out.mono ?_
    rintro e w1 ⟨rfl, hb1⟩
    go_wp2
    go_ret2
    exact ⟨rfl, by (repeat (first | (with_reducible exact Below.refl _ _) | (with_reducible assumption) | (with_reducible refine below_al ?_) | (with_reducible refine below_dr ?_) | (with_reducible refine below_drN ?_) | (with_reducible refine below_set ?_ (by first | exact Nat.le_refl _ | (dsimp only; omega) | omega)) | (with_reducible refine below_tr (by with_reducible assumption) ?_)))⟩
  · rw [htl] at ht
    simp only [if_true] at ht ⊢
    clear htl
    have HT := Lib.hid ht
    clear ht
    go_wp2_with fail
    refine HT.out.mono ?_
    rintro e w1 ⟨rfl, hb1⟩
    obtain ⟨hc1, hf1⟩ := bcell hb1
    have hB := Lib.hid (show Blk w1 w.heap.size (ints t.l) 57 from ((Blk.newA w #[.int .i64 t.a, .int .i64 t.b, .int .i64 t.c, .int .i64 t.d] 57).alloc _).under hb1)
    have hb2 : Below w.heap.size w w1 := by (repeat (first | (with_reducible exact Below.refl _ _) | (with_reducible assumption) | (with_reducible refine below_al ?_) | (with_reducible refine below_dr ?_) | (with_reducible refine below_drN ?_) | (with_reducible refine below_set ?_ (by first | exact Nat.le_refl _ | (dsimp only; omega) | omega)) | (with_reducible refine below_tr (by with_reducible assumption) ?_)))
    have Hb2 := Lib.hid hb2
    have hs1 := Lib.hid (show w.heap.size < w1.heap.size by have := hb1.size; simp at this; omega)
    clear hb1 hc1 hf1 hb2
    go_wp2
    go_loopw [5] (fun i wr => ∃ k : Nat, 1 ≤ k ∧ k ≤ 4 ∧ i = .int .i64 k ∧ Hid (∀ j, 1 ≤ j → j < k → turnN t j ≠ t) ∧ Below w1.heap.size w1 wr) (fun i _ => 4 - (intOf i).toNat)
    case atStart => exact ⟨1, by omega, by omega, rfl, fun j h1 h2 => by omega, Below.refl _ _⟩
    case round =>
      obtain ⟨k, hk1, hk4, rfl, HN, hb⟩ := hrel
      have HB := Lib.hid (hB.out.below hb hs1.out)
      have q := HB.out
      have e : ∀ j (hj : j < 4), ∀ w2, Below wr.heap.size wr w2 → w2.cell? ⟨w.heap.size, j, none⟩ = some [Value.int .i64 t.a, .int .i64 t.b, .int .i64 t.c, .int .i64 t.d][j] := fun j hj w2 h => (q.under h).cell j hj
      have e0 := e 0 (by omega)
      have e1 := e 1 (by omega)
      have e2 := e 2 (by omega)
      have e3 := e 3 (by omega)
      simp only [List.getElem_cons_zero, List.getElem_cons_succ] at e0 e1 e2 e3
      have HC := Lib.hid (fun w => l07Turn_c t k (by omega) w)
      have hnq := neq_tile
      have hgd := guard_tile
      clear e q
      by_cases hk : turnN t k = t
      · have hd : decide (turnN t k = t) = true := by simp [hk]
        have HK := Lib.hid (turnNo_eq hk1 hk4 HN.out hk)
        clear hk
        generalize turnN t k = u at *
        go_wp2_with fail
        refine wp_region_add (fun w' => Below (wr).heap.size (wr) w') (by kernel_rfl) (by kernel_rfl) ((Below.refl _ _).drew) ?_
        repeat (first
          | (refine add_skip rfl (fun K' hK' => ?_); go_simp; refine hK' _ ?_; clear hK' K')
          | (refine add_do (v := ?_) rfl (fun w1 hb => ?_) (fun K' hK' => ?_); rotate_left
             · go_simp
               first
               | (with_reducible exact rfl)
               | (with_reducible exact ⟨rfl, hb⟩)
               | (with_reducible exact (addCall (HC.out w1) hb).2)
               | exact (addCall (HC.out w1) hb).2
               | exact rfl
               | exact ⟨rfl, hb⟩
             go_simp; refine hK' _ ?_; clear hK' K'))
        refine add_nil ?_
        intro wa hba
        have HBA := Lib.hid hba
        clear hba e0 e1 e2 e3
        go_wp2
        go_ret2
        refine ⟨?_, Hb2.out.trans ((hb.trans (HBA.out.mono hb.size)).mono Hb2.out.size)⟩
        rw [← HK.out]
        rfl
      · have hd : decide (turnN t k = t) = false := by simp [hk]
        have HK := Lib.hid hk
        have hk3 : k < 4 := by
          rcases Nat.lt_or_ge k 4 with h | h
          · exact h
          · exact absurd (by rw [show k = 4 by omega]; exact turnN4 t) HK.out
        clear hk
        have HU := Lib.hid (show ∀ j, j = k → turnN t j = turnN t k from fun j h => by rw [h])
        generalize turnN t k = u at *
        go_wp2_with fail
        refine wp_region_add (fun w' => Below (wr).heap.size (wr) w') (by kernel_rfl) (by kernel_rfl) ((Below.refl _ _).drew) ?_
        repeat (first
          | (refine add_skip rfl (fun K' hK' => ?_); go_simp; refine hK' _ ?_; clear hK' K')
          | (refine add_do (v := ?_) rfl (fun w1 hb => ?_) (fun K' hK' => ?_); rotate_left
             · go_simp
               first
               | (with_reducible exact rfl)
               | (with_reducible exact ⟨rfl, hb⟩)
               | (with_reducible exact (addCall (HC.out w1) hb).2)
               | exact (addCall (HC.out w1) hb).2
               | exact rfl
               | exact ⟨rfl, hb⟩
             go_simp; refine hK' _ ?_; clear hK' K'))
        refine add_nil ?_
        intro wa hba
        have HBA := Lib.hid hba
        clear hba e0 e1 e2 e3
        go_wp2
        go_roundw
        case rel => exact ⟨k + 1, by omega, by omega, by go_num, (fun j h1 h2 => by
          rcases Nat.lt_or_ge j k with h | h
          · exact HN.out j h1 h
          · rw [HU.out j (by omega)]; exact HK.out), hb.trans (HBA.out.mono hb.size)⟩
        case measure => simp [intOf]; omega
set_option maxRecDepth 100000 in
set_option maxHeartbeats 1000000 in
theorem implTurnNumber_c (t : T4) (w : World) :
    Calls Try.prog 33 #[.agg #[.int .i64 t.a, .int .i64 t.b, .int .i64 t.c, .int .i64 t.d]] w fun e w' => e = .returned (if isTileB t 6 = true then .tuple #[.int .i64 ((ddT (sortT (turnsL t 4))).length : Nat), .int .i64 0] else .tuple #[.int .i64 0, .int .i64 2]) ∧ Below w.heap.size w w' := by
  have h0 : TileCells ((w.alloc (.cells #[.int .i64 t.a, .int .i64 t.b, .int .i64 t.c, .int .i64 t.d] 57)).alloc (.cells #[.int .i64 t.a, .int .i64 t.b, .int .i64 t.c, .int .i64 t.d] 57)) (some ⟨w.heap.size + 1, 0, none⟩) [t] := by
    have := new_tile (w.alloc (.cells #[.int .i64 t.a, .int .i64 t.b, .int .i64 t.c, .int .i64 t.d] 57)) t 57
    rw [World.size_alloc] at this
    exact this
  have ht := areTiles_c [t] _ 1 _ h0 (by simp)
  simp only [List.length_cons, List.length_nil, Nat.zero_add, List.all_cons, List.all_nil, Bool.and_true] at ht
  clear h0
  have hlen := turnsL_length t 4
  have HL := Lib.hid hlen
  clear hlen
  go_enter Try.func33, Try.ntmps33
  cases htl : isTileB t 6
  · rw [htl] at ht
    simp only [Bool.false_eq_true, if_false] at ht ⊢
    clear htl
    have HT := Lib.hid ht
    clear ht
    go_wp2_with fail
    refine HT.out.mono ?_
    rintro e w1 ⟨rfl, hb1⟩
    go_wp2
    go_ret2
    exact ⟨rfl, by (repeat (first | (with_reducible exact Below.refl _ _) | (with_reducible assumption) | (with_reducible refine below_al ?_) | (with_reducible refine below_dr ?_) | (with_reducible refine below_drN ?_) | (with_reducible refine below_set ?_ (by first | exact Nat.le_refl _ | (dsimp only; omega) | omega)) | (with_reducible refine below_tr (by with_reducible assumption) ?_)))⟩
  · rw [htl] at ht
    simp only [if_true] at ht ⊢
    clear htl
    have HT := Lib.hid ht
    clear ht
    go_wp2_with fail
    refine HT.out.mono ?_
    rintro e w1 ⟨rfl, hb1⟩
    have q := (((Blk.newA w #[.int .i64 t.a, .int .i64 t.b, .int .i64 t.c, .int .i64 t.d] 57).alloc _).under hb1)
    have y0 := q.cell 0 (by simp)
    have y1 := q.cell 1 (by simp)
    have y2 := q.cell 2 (by simp)
    have y3 := q.cell 3 (by simp)
    simp only [List.getElem_cons_zero, List.getElem_cons_succ] at y0 y1 y2 y3
    have hb2 : Below w.heap.size w w1 := by (repeat (first | (with_reducible exact Below.refl _ _) | (with_reducible assumption) | (with_reducible refine below_al ?_) | (with_reducible refine below_dr ?_) | (with_reducible refine below_drN ?_) | (with_reducible refine below_set ?_ (by first | exact Nat.le_refl _ | (dsimp only; omega) | omega)) | (with_reducible refine below_tr (by with_reducible assumption) ?_)))
    have Hb2 := Lib.hid hb2
    clear hb1 hb2 q
    go_wp2_with fail
    refine (turns_c t _).mono ?_
    rintro e w2 ⟨v, rfl, hO, hb3⟩
    obtain ⟨A, cx, rfl, hT⟩ := hO.tiles
    rw [HL.out]
    have HO := Lib.hid hO
    have HT3 := Lib.hid hT
    have Hb3 := Lib.hid (Hb2.out.trans (hb3.mono Hb2.out.size))
    clear hO hT hb3 y0 y1 y2 y3
    go_wp2_with fail
    refine (itValues_c A 4 cx w2).mono ?_
    rintro e w3 ⟨rfl, rfl⟩
    go_wp2_with fail
    refine (sortedFunc_c w2.heap.size cx A (turnsL t 4) (by have := HL.out; omega) _ (by simp) (by rw [HL.out]; exact cell_alloc_at _ _ _ _ _ rfl) (HT3.out.below (by (repeat (first | (with_reducible exact Below.refl _ _) | (with_reducible assumption) | (with_reducible refine below_al ?_) | (with_reducible refine below_dr ?_) | (with_reducible refine below_drN ?_) | (with_reducible refine below_set ?_ (by first | exact Nat.le_refl _ | (dsimp only; omega) | omega)) | (with_reducible refine below_tr (by with_reducible assumption) ?_)))))).mono ?_
    rintro e w4 ⟨v4, rfl, hO4, hb4⟩
    have HO4 := Lib.hid hO4
    have Hb4 := Lib.hid (Hb3.out.trans ((((Below.refl _ _).alloc (Nat.le_refl _) _).trans (hb4.mono (by simp))).mono Hb3.out.size))
    clear hO4 hb4
    go_wp2_with fail
    refine (compactO_c _ _ v4 _ HO4.out (by rw [sortT_length]; have := HL.out; omega)).mono ?_
    rintro e w5 ⟨A5, c5, rfl, hO5, hg5⟩
    have Hg5 := Lib.hid hg5
    clear hO5 hg5
    go_wp2
    go_ret2
    exact ⟨rfl, Hb4.out.grown Hg5.out Hb4.out.size (fun k hk => by have a := (World.ownsRow.lt HO4.out k hk).1; have b := Hb3.out.size; rw [World.size_alloc] at a; omega)⟩

end Go.Proofs.Ytfkmophmiiehlaa
