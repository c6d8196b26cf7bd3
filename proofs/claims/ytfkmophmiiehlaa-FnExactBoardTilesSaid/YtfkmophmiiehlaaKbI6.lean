/- Contracts and lemmas for the statements of this seat, written for this claim; each theorem states its own conditions. -/
import Derived.Laws.StructEq
import Derived.Lib.SliceRun
import Derived.Laws.CopyRow
import Derived.Test.YtfkmophmiiehlaaKbI4
set_option linter.unusedVariables false
set_option linter.unusedSimpArgs false
namespace Go.Proofs.Ytfkmophmiiehlaa
open Go.RowKit
def ddp : T4 → List T4 → List T4
  | _, [] => []
  | p, x :: xs => if x = p then ddp p xs else x :: ddp x xs
/-- without neighbours that are equal -/
def ddT : List T4 → List T4
  | [] => []
  | x :: xs => x :: ddp x xs
theorem ddp_snoc (x : T4) : ∀ (xs : List T4) (p : T4), ddp p (xs ++ [x]) = if x = xs.getLastD p then ddp p xs else ddp p xs ++ [x]
  | [], p => by by_cases h : x = p <;> simp [ddp, h]
  | y :: ys, p => by
    rw [List.cons_append, List.getLastD_cons]
    unfold ddp
    by_cases h : y = p
    · rw [if_pos h, if_pos h, ddp_snoc x ys p, h]
    · rw [if_neg h, if_neg h, ddp_snoc x ys y]
      by_cases h2 : x = ys.getLastD y
      · rw [if_pos h2, if_pos h2]
      · rw [if_neg h2, if_neg h2]; rfl
theorem ddT_snoc (xs : List T4) (k : Nat) (hk : k + 1 < xs.length) : ddT (xs.take (k + 2)) = if xs[k + 1] = xs[k] then ddT (xs.take (k + 1)) else ddT (xs.take (k + 1)) ++ [xs[k + 1]] := by
  rw [List.take_succ_eq_append_getElem hk]
  generalize xs[k + 1] = x
  have hl : (xs.take (k + 1)).getLast? = some xs[k] := by
    rw [List.getLast?_eq_getElem?, List.length_take, Nat.min_eq_left (by omega), Nat.add_sub_cancel, List.getElem?_take_of_lt (by omega), List.getElem?_eq_getElem (by omega)]
  cases h : xs.take (k + 1) with
  | nil => rw [h] at hl; cases hl
  | cons y ys =>
    rw [h] at hl
    rw [List.getLast?_cons, Option.some.injEq] at hl
    rw [List.cons_append]
    show y :: ddp y (ys ++ [x]) = if x = xs[k] then y :: ddp y ys else (y :: ddp y ys) ++ [x]
    rw [ddp_snoc, ← hl]
    have e : ys.getLastD y = ys.getLast?.getD y := by rw [List.getLastD_eq_getLast?]
    rw [e]
    split <;> rfl
theorem tcells_take (L : List T4) (k : Nat) : (tcells L).take (k * 4) = tcells (L.take k) := by
  induction L generalizing k with
  | nil => simp [tcells]
  | cons t ts ih =>
    cases k with
    | zero => simp [tcells]
    | succ k => rw [List.take_succ_cons, tcells_cons, tcells_cons, ← ih, show (k + 1) * 4 = k * 4 + 1 + 1 + 1 + 1 by omega]; simp
theorem clear_T {w : World} {B g n cap : Nat} {L : List T4} (h : OwnT w B (.slice (some ⟨g, 0, none⟩) n cap) L) (k : Nat) (hk : k < n) :
    ∃ W', (∀ ty, (Builtin.clear_ #[29] ty #[.slice (some ⟨g, k * 4, none⟩) (n - k) (cap - k)]).run Try.prog w = .ok (.tuple #[]) W') ∧ OwnT W' B (.slice (some ⟨g, 0, none⟩) k cap) (L.take k) ∧ w.grownBy W' (some g) := by
  have hn : n = L.length := by obtain ⟨A, cx, e, hT⟩ := h.tiles; injection e
  subst hn
  obtain ⟨g', cap', cur, e, hB, hb, h1, h2, h3, h4⟩ := h.parts (by omega)
  injection e with a1 a2 a3
  injection a1 with a1
  injection a1 with a1
  subst a1 a3
  obtain ⟨Z, hZ⟩ : ∃ Z, Z = (Builtin.zeroCells (Value.cells (.agg #[.int .i64 0, .int .i64 0, .int .i64 0, .int .i64 0])) (L.length - k)).toList := ⟨_, rfl⟩
  have hZl : Z.length = (L.length - k) * 4 := by rw [hZ, Array.length_toList, size_zeroCells]; rfl
  have hZ1 : ∀ v ∈ Z, v.oneCell' = true := by
    intro v hv
    rw [hZ] at hv
    simp only [Builtin.zeroCells, Array.toList_map, List.mem_map] at hv
    obtain ⟨i, _, rfl⟩ := hv
    have hi : i % 4 < 4 := Nat.mod_lt _ (by omega)
    have : i % 4 = 0 ∨ i % 4 = 1 ∨ i % 4 = 2 ∨ i % 4 = 3 := by omega
    show ((#[Value.int .i64 0, .int .i64 0, .int .i64 0, .int .i64 0] : Array Value)[i % 4]!).oneCell' = true
    rcases this with e | e | e | e <;> rw [e] <;> rfl
  have hst := run_storeCells_at Try.prog g (k * 4) 57 Z 0 cur w hb (by rw [hZl, h3]; omega) hZ1
  simp only [Nat.add_zero] at hst
  refine ⟨w.setRow g (cur.toList.take (k * 4) ++ Z ++ cur.toList.drop (k * 4 + Z.length)).toArray, fun ty => ?_, ?_, ?_⟩
  rotate_left
  · refine ⟨(tcells_length _).trans (by rw [List.length_take, Nat.min_eq_left (by omega)]), .inr ⟨g, cap, _, by rw [List.length_take, Nat.min_eq_left (by omega)], hB, setRow_heap w g cur _ _ _ hb, by rw [List.length_take]; omega, h2, ?_, ?_⟩⟩
    rotate_left
    · rw [List.length_take, Nat.min_eq_left (by omega), List.append_assoc, List.take_left' (by rw [List.length_take, Array.length_toList, h3]; omega), ← tcells_take, ← h4, List.take_take, Nat.min_eq_left (by omega)]
    · simp [hZl, h3]; omega
  · exact ⟨rfl, rfl, rfl, by simp, fun j _ hj => setRow_other _ _ _ _ (fun e => hj (by rw [e]))⟩
  · obtain ⟨m, hm⟩ : ∃ m, L.length - k = m + 1 := ⟨L.length - k - 1, by omega⟩
    have hv := fun w => Try.zeroValue57 w
    rw [hm] at hZ ⊢
    simp [Builtin.clear_, run_underlying Try.underlying29, hv, ← hZ, hst]
end Go.Proofs.Ytfkmophmiiehlaa
namespace Go.Proofs.Ytfkmophmiiehlaa
open Go.RowKit
set_option maxRecDepth 100000 in
set_option maxHeartbeats 1000000 in
theorem l07Turn_c (t : T4) (n : Nat) (hn : n ≤ 1000) (w : World) :
    Calls Try.prog 63 #[.agg #[.int .i64 t.a, .int .i64 t.b, .int .i64 t.c, .int .i64 t.d], .int .i64 n] w fun e w' => e = .returned (.agg #[.int .i64 (turnN t n).a, .int .i64 (turnN t n).b, .int .i64 (turnN t n).c, .int .i64 (turnN t n).d]) ∧ Below w.heap.size w w' := by
  go_enter Try.func63, Try.ntmps63
  go_wp2
  go_loopw [1] (fun i wr => ∃ k : Nat, k ≤ n ∧ i = .int .i64 ((n : Int) - k) ∧ Hid (Blk wr w.heap.size (ints (turnN t k).l) 57) ∧ Hid (Blk wr (w.heap.size + 1) (ints T4z.l) 57) ∧ Hid (Below w.heap.size w wr)) (fun i _ => (intOf i).toNat)
  case atStart =>
    refine ⟨0, by omega, by go_num, ?_, ?_, ?_⟩
    · exact (Blk.newA w #[.int .i64 t.a, .int .i64 t.b, .int .i64 t.c, .int .i64 t.d] 57).alloc _
    · have := Blk.newA (w.alloc (.cells #[.int .i64 t.a, .int .i64 t.b, .int .i64 t.c, .int .i64 t.d] 57)) #[.int .i64 0, .int .i64 0, .int .i64 0, .int .i64 0] 57
      rw [World.size_alloc] at this
      exact this
    · show Below w.heap.size w _
      (repeat (first | (with_reducible exact Below.refl _ _) | (with_reducible assumption) | (with_reducible refine below_al ?_) | (with_reducible refine below_dr ?_) | (with_reducible refine below_drN ?_) | (with_reducible refine below_set ?_ (by first | exact Nat.le_refl _ | (dsimp only; omega) | omega)) | (with_reducible refine below_tr (by with_reducible assumption) ?_)))
  case round =>
    obtain ⟨k, hk, rfl, hB, hZ, hb⟩ := hrel
    have HN := Lib.hid (show turnN t (k + 1) = turnT (turnN t k) from rfl)
    have HU := Lib.hid (show ∀ j, j = k → turnN t j = turnN t k from fun j h => by rw [h])
    generalize turnN t k = u at *
    have y0 := hB.out.cell 0 (by simp [ints, T4.l])
    have y1 := hB.out.cell 1 (by simp [ints, T4.l])
    have y2 := hB.out.cell 2 (by simp [ints, T4.l])
    have y3 := hB.out.cell 3 (by simp [ints, T4.l])
    have f0 := hB.out.frozen 0
    have f1 := hB.out.frozen 1
    have f2 := hB.out.frozen 2
    have f3 := hB.out.frozen 3
    have z0 := hZ.out.cell 0 (by simp [ints, T4.l])
    have z1 := hZ.out.cell 1 (by simp [ints, T4.l])
    have z2 := hZ.out.cell 2 (by simp [ints, T4.l])
    have z3 := hZ.out.cell 3 (by simp [ints, T4.l])
    have g0 := hZ.out.frozen 0
    have g1 := hZ.out.frozen 1
    have g2 := hZ.out.frozen 2
    have g3 := hZ.out.frozen 3
    simp only [ints, T4.l, T4z, List.map_cons, List.getElem_cons_zero, List.getElem_cons_succ] at y0 y1 y2 y3 z0 z1 z2 z3
    by_cases h1 : k < n
    · go_wp2
      go_roundw
      case rel =>
        refine ⟨k + 1, by omega, by go_num, ?_, ?_, ?_⟩
        · show Blk _ _ _ _
          rw [HN.out]
          exact (((hB.out.set 0 _).set 1 _).set 2 _).set 3 _
        · exact (((hZ.out.other (by simp) _).other (by simp) _).other (by simp) _).other (by simp) _
        · have hb := hb.out
          show Below w.heap.size w _
          (repeat (first | (with_reducible exact Below.refl _ _) | (with_reducible assumption) | (with_reducible refine below_al ?_) | (with_reducible refine below_dr ?_) | (with_reducible refine below_drN ?_) | (with_reducible refine below_set ?_ (by first | exact Nat.le_refl _ | (dsimp only; omega) | omega)) | (with_reducible refine below_tr (by with_reducible assumption) ?_)))
      case measure => simp [intOf]; omega
    · have HE := Lib.hid (HU.out n (by omega))
      obtain rfl : k = n := by omega
      go_wp2
      have hb' := hb.out
      rw [HE.out]
      refine bodyPost_ret (v := .agg #[.int .i64 u.a, .int .i64 u.b, .int .i64 u.c, .int .i64 u.d]) (by simp [results, Try.results63, go_sem, z0, z1, z2, z3]) rfl ⟨rfl, by (repeat (first | (with_reducible exact Below.refl _ _) | (with_reducible assumption) | (with_reducible refine below_al ?_) | (with_reducible refine below_dr ?_) | (with_reducible refine below_drN ?_) | (with_reducible refine below_set ?_ (by first | exact Nat.le_refl _ | (dsimp only; omega) | omega)) | (with_reducible refine below_tr (by with_reducible assumption) ?_)))⟩
end Go.Proofs.Ytfkmophmiiehlaa
namespace Go.Proofs.Ytfkmophmiiehlaa
open Go.RowKit
theorem len_le_of_mem : ∀ (D E : List T4), D.Nodup → (∀ x ∈ D, x ∈ E) → D.length ≤ E.length
  | [], _, _, _ => Nat.zero_le _
  | d :: D, E, hn, h => by
    have hd : d ∈ E := h d (by simp)
    obtain ⟨h1, h2⟩ := List.nodup_cons.1 hn
    have := len_le_of_mem D (E.erase d) h2 (fun x hx => by
      have hne : x ≠ d := fun e => h1 (by rw [← e]; exact hx)
      exact (List.mem_erase_of_ne hne).2 (h x (by simp [hx])))
    have hl := List.length_erase_of_mem hd
    have h0 : 0 < E.length := List.length_pos_of_mem hd
    simp only [List.length_cons]
    omega
theorem len_eq_of_mem (D E : List T4) (h1 : D.Nodup) (h2 : E.Nodup) (h : ∀ x, x ∈ D ↔ x ∈ E) : D.length = E.length :=
  Nat.le_antisymm (len_le_of_mem D E h1 (fun x => (h x).1)) (len_le_of_mem E D h2 (fun x => (h x).2))
theorem ltT_of_ne {x y : T4} (h : ltT y x = false) (hne : y ≠ x) : ltT x y = true := by
  cases h2 : ltT x y
  · exact absurd (ltT_anti y x h h2) hne
  · rfl
theorem ddp_spec : ∀ (xs : List T4) (p : T4), (p :: xs).Pairwise (fun x y => ltT y x = false) →
    (ddp p xs).Pairwise (fun x y => ltT x y = true) ∧ (∀ x, x ∈ ddp p xs ↔ x ∈ xs ∧ x ≠ p) ∧ (∀ x ∈ ddp p xs, ltT p x = true)
  | [], p, _ => by simp [ddp]
  | y :: ys, p, h => by
    rw [List.pairwise_cons, List.pairwise_cons] at h
    obtain ⟨h1, h2, h3⟩ := h
    have hy := h1 y (by simp)
    unfold ddp
    by_cases e : y = p
    · rw [if_pos e]
      obtain ⟨i1, i2, i3⟩ := ddp_spec ys p (List.pairwise_cons.2 ⟨fun z hz => h1 z (by simp [hz]), h3⟩)
      refine ⟨i1, fun x => ?_, i3⟩
      rw [i2]
      constructor
      · rintro ⟨a, b⟩; exact ⟨by simp [a], b⟩
      · rintro ⟨a, b⟩
        rcases List.mem_cons.1 a with rfl | a
        · exact absurd e b
        · exact ⟨a, b⟩
    · rw [if_neg e]
      obtain ⟨i1, i2, i3⟩ := ddp_spec ys y (List.pairwise_cons.2 ⟨h2, h3⟩)
      have hpy : ltT p y = true := ltT_of_ne hy e
      refine ⟨List.pairwise_cons.2 ⟨i3, i1⟩, fun x => ?_, ?_⟩
      · rw [List.mem_cons, List.mem_cons, i2]
        constructor
        · rintro (rfl | ⟨a, b⟩)
          · exact ⟨.inl rfl, e⟩
          · refine ⟨.inr a, fun e' => ?_⟩
            subst e'
            have := h2 x a
            rw [hpy] at this
            cases this
        · rintro ⟨a, b⟩
          rcases a with rfl | a
          · exact .inl rfl
          · by_cases e2 : x = y
            · exact .inl e2
            · exact .inr ⟨a, e2⟩
      · intro x hx
        rcases List.mem_cons.1 hx with rfl | hx
        · exact hpy
        · exact ltT_swo.trans _ _ _ hpy (i3 x hx)
theorem ddT_spec (ss : List T4) (h : ss.Pairwise (fun x y => ltT y x = false)) : (ddT ss).Pairwise (fun x y => ltT x y = true) ∧ ∀ x, x ∈ ddT ss ↔ x ∈ ss := by
  cases ss with
  | nil => simp [ddT]
  | cons p xs =>
    obtain ⟨i1, i2, i3⟩ := ddp_spec xs p h
    refine ⟨List.pairwise_cons.2 ⟨i3, i1⟩, fun x => ?_⟩
    show x ∈ p :: ddp p xs ↔ _
    rw [List.mem_cons, List.mem_cons, i2]
    constructor
    · rintro (a | ⟨a, b⟩)
      · exact .inl a
      · exact .inr a
    · rintro (a | a)
      · exact .inl a
      · by_cases e : x = p
        · exact .inl e
        · exact .inr ⟨a, e⟩
/-- the different tiles of a list, by their order -/
def setT (ts : List T4) : List T4 := ddT (sortT ts)
theorem setT_mem (ts : List T4) (x : T4) : x ∈ setT ts ↔ x ∈ ts := ((ddT_spec _ (sortT_sorted ts)).2 x).trans (sortT_perm ts).mem_iff
theorem setT_asc (ts : List T4) : (setT ts).Pairwise (fun x y => ltT x y = true) := (ddT_spec _ (sortT_sorted ts)).1
theorem setT_nodup (ts : List T4) : (setT ts).Nodup := (setT_asc ts).imp (fun h e => by rw [e, ltT_swo.irrefl] at h; cases h)
end Go.Proofs.Ytfkmophmiiehlaa
