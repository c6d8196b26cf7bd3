/- Contracts and lemmas for the statements of this seat, written for this claim; each theorem states its own conditions. -/
import Derived.Test.YtkgnejhflnekaaaFrBy
set_option linter.unusedVariables false
set_option linter.unusedSimpArgs false
namespace Go.Proofs.Ytkgnejhflnekaaa
open Go.RowKit
attribute [local go_sem] addUpon_value addUpon_skip addUpon_enter
set_option maxRecDepth 100000 in
set_option maxHeartbeats 1000000 in
theorem slicesEqual_c (xs ys : List Int) (A B : Option Addr) (cx cy : Nat) (w : World) (hx : Cells w A (ints xs)) (hy : Cells w B (ints ys)) (lx : xs.length ≤ 1000000000) (ly : ys.length ≤ 1000000000) :
    Calls Try.prog 59 #[.slice A xs.length cx, .slice B ys.length cy] w fun e w' => e = .returned (.bool (eqI xs ys)) ∧ Below w.heap.size w w' := by
  by_cases hl : xs.length = ys.length
  · have HL := Lib.hid hl
    have hl' : ((xs.length : Int) != (ys.length : Int)) = false := by simp; omega
    have hl2 : ys.length ≤ xs.length := by omega
    have hl3 : xs.length ≤ ys.length := by omega
    clear hl
    go_enter Try.func59, Try.ntmps59
    go_wp2
    go_loopw [13] (fun i wr => ∃ k : Nat, k ≤ xs.length ∧ i = .int .i64 k ∧ Hid (∀ j (h1 : j < xs.length) (h2 : j < ys.length), j < k → xs[j] = ys[j]) ∧ Below w.heap.size w wr) (fun i _ => xs.length - (intOf i).toNat)
    case atStart => exact ⟨0, by omega, rfl, fun j _ _ h => by omega, Below.refl _ _⟩
    case round =>
      obtain ⟨k, hk, rfl, Hn, hb⟩ := hrel
      have Hb := Lib.hid hb
      by_cases h1 : k < xs.length
      · have h2 : k < ys.length := by omega
        obtain ⟨b, off, rfl, hlt, c0⟩ := (hx.below hb).int k h1
        obtain ⟨b', off', rfl, hlt', d0⟩ := (hy.below hb).int k h2
        have e0 := keepC c0
        have f0 := keepC d0
        clear c0 d0 hx hy hb
        by_cases hE : xs[k] = ys[k]
        · have hE' : (xs[k] != ys[k]) = false := by simpa using hE
          have HE : Hid (∀ j (h1 : j < xs.length) (h2 : j < ys.length), j < k + 1 → xs[j] = ys[j]) := fun j h1 h2 hj => by
            by_cases e : j = k
            · subst e; exact hE
            · exact Hn.out j h1 h2 (by omega)
          clear hE
          generalize xs[k] = s at *
          generalize ys[k] = t at *
          go_wp2_with fail
          refine wp_region_add (fun w' => Below (wr).heap.size (wr) w') (by kernel_rfl) (by kernel_rfl) ((Below.refl _ _).drew) ?_
          repeat (first
            | (refine add_skip rfl (fun K' hK' => ?_); go_simp; refine hK' _ ?_; clear hK' K')
            | (refine add_do (v := ?_) rfl (fun w1 hb => ?_) (fun K' hK' => ?_); rotate_left
               · go_simp
                 first
                 | (with_reducible exact rfl)
                 | (with_reducible exact ⟨rfl, hb⟩)
                 | exact rfl
                 | exact ⟨rfl, hb⟩
               go_simp; refine hK' _ ?_; clear hK' K'))
          refine add_nil ?_
          intro wa hba
          go_wp2
          go_roundw
          case rel => exact ⟨k + 1, by omega, by go_num, HE, by have h3 := Hb.out; (repeat (first | (with_reducible exact Below.refl _ _) | (with_reducible assumption) | (with_reducible refine below_al ?_) | (with_reducible refine below_dr ?_) | (with_reducible refine below_drN ?_) | (with_reducible refine below_set ?_ (by first | exact Nat.le_refl _ | (dsimp only; omega) | omega)) | (with_reducible refine below_tr (by with_reducible assumption) ?_)))⟩
          case measure => simp [intOf]; omega
        · have hE' : (xs[k] != ys[k]) = true := by simpa using hE
          have HE : Hid (eqI xs ys = false) := by unfold Hid eqI; simp only [decide_eq_false_iff_not]; intro e; apply hE; simp only [e]
          clear hE
          generalize xs[k] = s at *
          generalize ys[k] = t at *
          go_wp2_with fail
          refine wp_region_add (fun w' => Below (wr).heap.size (wr) w') (by kernel_rfl) (by kernel_rfl) ((Below.refl _ _).drew) ?_
          repeat (first
            | (refine add_skip rfl (fun K' hK' => ?_); go_simp; refine hK' _ ?_; clear hK' K')
            | (refine add_do (v := ?_) rfl (fun w1 hb => ?_) (fun K' hK' => ?_); rotate_left
               · go_simp
                 first
                 | (with_reducible exact rfl)
                 | (with_reducible exact ⟨rfl, hb⟩)
                 | exact rfl
                 | exact ⟨rfl, hb⟩
               go_simp; refine hK' _ ?_; clear hK' K'))
          refine add_nil ?_
          intro wa hba
          go_wp2
          go_ret
          exact ⟨ret_bool HE.out.symm, by have h3 := Hb.out; (repeat (first | (with_reducible exact Below.refl _ _) | (with_reducible assumption) | (with_reducible refine below_al ?_) | (with_reducible refine below_dr ?_) | (with_reducible refine below_drN ?_) | (with_reducible refine below_set ?_ (by first | exact Nat.le_refl _ | (dsimp only; omega) | omega)) | (with_reducible refine below_tr (by with_reducible assumption) ?_)))⟩
      · have HE : Hid (eqI xs ys = true) := by
          unfold Hid eqI; rw [decide_eq_true_eq]
          exact List.ext_getElem HL.out fun j h1 h2 => Hn.out j h1 h2 (by omega)
        clear hx hy
        go_wp2
        go_ret
        exact ⟨ret_bool HE.out.symm, hb⟩
  · have hR : Hid (eqI xs ys = false) := by unfold Hid eqI; simp only [decide_eq_false_iff_not]; intro e; exact hl (by rw [e])
    have hl' : ((xs.length : Int) != (ys.length : Int)) = true := by simp; omega
    clear hl
    go_enter Try.func59, Try.ntmps59
    go_wp2
    go_ret
    exact ⟨ret_bool hR.out.symm, Below.refl _ _⟩
/-- what a function value does as a predicate over lists of numbers, in every world that grows out of w -/
def PredR (w : World) (k : FuncId) (caps : Array Value) (p : List Int → Bool) (L : List (List Int)) : Prop :=
  ∀ j (h : j < L.length) (A : Option Addr) (cx : Nat) (w1 : World), Below w.heap.size w w1 → Cells w1 A (ints L[j]) → Calls Try.prog k (#[.slice A L[j].length cx] ++ caps) w1 fun e w2 => e = .returned (.bool (p L[j])) ∧ Below w1.heap.size w1 w2
def idxR (p : List Int → Bool) (L : List (List Int)) : Int := match L.findIdx? p with | some i => (i : Int) | none => -1
theorem idxR_none {p : List Int → Bool} {xs : List (List Int)} (h : ∀ j (h : j < xs.length), p xs[j] = false) : idxR p xs = -1 := by
  have : xs.findIdx? p = none := by
    rw [List.findIdx?_eq_none_iff]
    intro x hx
    obtain ⟨j, hj, rfl⟩ := List.getElem_of_mem hx
    exact h j hj
  simp [idxR, this]
theorem idxR_some {p : List Int → Bool} {xs : List (List Int)} {i : Nat} (hi : i < xs.length) (h : ∀ j (h : j < xs.length), j < i → p xs[j] = false) (hp : p xs[i] = true) : idxR p xs = i := by
  have : xs.findIdx? p = some i := by
    rw [List.findIdx?_eq_some_iff_getElem]
    exact ⟨hi, hp, fun j hj => by simp [h j (by omega) hj]⟩
  simp [idxR, this]
set_option maxRecDepth 100000 in
set_option maxHeartbeats 1000000 in
theorem indexFuncR_c (L : List (List Int)) (A : Option Addr) (cx : Nat) (k : FuncId) (caps : Array Value) (p : List Int → Bool) (w : World)
    (hk : ∀ args w, Sem.run Try.prog (callFunc k args) w = .ok (.enter k args) w) (hx : RowsC w A L) (hl : L.length ≤ 1000000000) (hp : PredR w k caps p L) :
    Calls Try.prog 57 #[.slice A L.length cx, .func (.func k) #[] caps] w fun e w' =>
      e = .returned (.int .i64 (idxR p L)) ∧ Below w.heap.size w w' := by
  go_enter Try.func57, Try.ntmps57
  go_wp2
  go_loopw [8] (fun i wr => ∃ k : Nat, k ≤ L.length ∧ i = .int .i64 k ∧ Hid (∀ j (h : j < L.length), j < k → p L[j] = false) ∧ Below w.heap.size w wr) (fun i _ => L.length - (intOf i).toNat)
  case atStart => exact ⟨0, by omega, rfl, fun j _ h => by omega, Below.refl _ _⟩
  case round =>
    obtain ⟨i, hi, rfl, Hn, hb⟩ := hrel
    by_cases h1 : i < L.length
    · obtain ⟨b, off, A1, c1, rfl, hlt, c0, r1⟩ := (hx.below hb) i h1
      have Hc := Lib.hid (hp i h1 A1 c1 wr hb r1)
      have Hb := Lib.hid hb
      clear hp hx r1 hb
      cases hpx : p L[i]
      · have Hpx := Lib.hid hpx
        rw [hpx] at Hc
        clear hpx
        go_wp2_with fail
        refine Hc.out.mono ?_
        rintro e w1 ⟨rfl, hb1⟩
        go_wp2
        go_roundw
        case rel => exact ⟨i + 1, by omega, by go_num, fun j h hj => by
          by_cases e : j = i
          · subst e; exact Hpx.out
          · exact Hn.out j h (by omega), by have h3 := Hb.out; (repeat (first | (with_reducible exact Below.refl _ _) | (with_reducible assumption) | (with_reducible refine below_al ?_) | (with_reducible refine below_dr ?_) | (with_reducible refine below_drN ?_) | (with_reducible refine below_set ?_ (by first | exact Nat.le_refl _ | (dsimp only; omega) | omega)) | (with_reducible refine below_tr (by with_reducible assumption) ?_)))⟩
        case measure => simp [intOf]; omega
      · have Hpx := Lib.hid hpx
        rw [hpx] at Hc
        clear hpx
        go_wp2_with fail
        refine Hc.out.mono ?_
        rintro e w1 ⟨rfl, hb1⟩
        go_wp2
        go_ret
        exact ⟨ret_int (idxR_some h1 Hn.out Hpx.out).symm, by have h3 := Hb.out; (repeat (first | (with_reducible exact Below.refl _ _) | (with_reducible assumption) | (with_reducible refine below_al ?_) | (with_reducible refine below_dr ?_) | (with_reducible refine below_drN ?_) | (with_reducible refine below_set ?_ (by first | exact Nat.le_refl _ | (dsimp only; omega) | omega)) | (with_reducible refine below_tr (by with_reducible assumption) ?_)))⟩
    · go_wp2
      go_ret
      exact ⟨ret_int (idxR_none (fun j h => Hn.out j h (by omega))).symm, hb⟩
set_option maxRecDepth 100000 in
set_option maxHeartbeats 1000000 in
theorem blockIndex1_c (xs ys : List Int) (A B : Option Addr) (cx cy b : Nat) (w : World) (hx : Cells w A (ints xs)) (hy : Cells w B (ints ys)) (lx : xs.length ≤ 1000000000) (ly : ys.length ≤ 1000000000) (h0 : w.cell? ⟨b, 0, none⟩ = some (.slice B ys.length cy)) :
    Calls Try.prog 58 #[.slice A xs.length cx, .pointer (some ⟨b, 0, none⟩)] w fun e w' => e = .returned (.bool (eqI xs ys)) ∧ Below w.heap.size w w' := by
  have H := Lib.hid (slicesEqual_c xs ys A B cx cy w hx hy lx ly)
  clear hx hy
  generalize eqI xs ys = r at *
  go_enter Try.func58, Try.ntmps58
  go_wp2_with fail
  refine H.out.mono ?_
  rintro e w1 ⟨rfl, hb1⟩
  go_wp2
  go_ret
  exact ⟨rfl, by (repeat (first | (with_reducible exact Below.refl _ _) | (with_reducible assumption) | (with_reducible refine below_al ?_) | (with_reducible refine below_dr ?_) | (with_reducible refine below_drN ?_) | (with_reducible refine below_set ?_ (by first | exact Nat.le_refl _ | (dsimp only; omega) | omega)) | (with_reducible refine below_tr (by with_reducible assumption) ?_)))⟩
set_option maxRecDepth 100000 in
set_option maxHeartbeats 1000000 in
theorem blockIndex_c (L : List (List Int)) (row : List Int) (A B : Option Addr) (cx cy : Nat) (w : World) (hx : RowsC w A L) (hy : Cells w B (ints row)) (hl : L.length ≤ 1000000000) (hS : Short 1000000000 L) (lr : row.length ≤ 1000000000) :
    Calls Try.prog 33 #[.slice A L.length cx, .slice B row.length cy] w fun e w' => e = .returned (.int .i64 (idxR (fun r => eqI r row) L)) ∧ Below w.heap.size w w' := by
  have H := Lib.hid (fun (wq : World) (hq : Below w.heap.size w wq) (b : Nat) h0 => indexFuncR_c L A cx 58 #[.pointer (some ⟨b, 0, none⟩)] (fun r => eqI r row) wq (fun _ _ => rfl) (hx.below hq) hl
    (fun j hj A1 c1 w1 hb hc => blockIndex1_c L[j] row A1 B c1 cy b w1 hc ((hy.below hq).below hb) (hS j hj) lr (keepC h0 _ hb)))
  clear hx hy
  generalize idxR (fun r => eqI r row) L = z at *
  go_enter Try.func33, Try.ntmps33
  go_wp2_with fail
  refine (H.out _ (by (repeat (first | (with_reducible exact Below.refl _ _) | (with_reducible assumption) | (with_reducible refine below_al ?_) | (with_reducible refine below_dr ?_) | (with_reducible refine below_drN ?_) | (with_reducible refine below_set ?_ (by first | exact Nat.le_refl _ | (dsimp only; omega) | omega)) | (with_reducible refine below_tr (by with_reducible assumption) ?_)))) _ ?_).mono ?_
  · (repeat (first | (exact cell_al _ _ _ _ _ _ (by simp) rfl) | (refine cell_alloc_old _ _ _ _ _ ?_)))
  rintro e w1 ⟨rfl, hb1⟩
  go_wp2
  go_ret
  exact ⟨rfl, by (repeat (first | (with_reducible exact Below.refl _ _) | (with_reducible assumption) | (with_reducible refine below_al ?_) | (with_reducible refine below_dr ?_) | (with_reducible refine below_drN ?_) | (with_reducible refine below_set ?_ (by first | exact Nat.le_refl _ | (dsimp only; omega) | omega)) | (with_reducible refine below_tr (by with_reducible assumption) ?_)))⟩
def one1At (L : List (List Int)) (i : Nat) : Bool := (List.range i).all fun j => !eqI (L.getD i []) (L.getD j [])
def one1 (L : List (List Int)) : Bool := (List.range L.length).all (one1At L)
theorem one1_bad {L : List (List Int)} {i : Nat} (hi : i < L.length) (h : one1At L i = false) : one1 L = false := by
  unfold one1; rw [List.all_eq_false]
  exact ⟨i, List.mem_range.2 hi, by simp [h]⟩
theorem one1_all {L : List (List Int)} (h : ∀ i, i < L.length → one1At L i = true) : one1 L = true := by
  unfold one1; rw [List.all_eq_true]
  exact fun i hi => h i (List.mem_range.1 hi)
theorem one1At_bad {L : List (List Int)} {i j : Nat} (hi : i < L.length) (hj : j < i) (h : eqI L[i] L[j] = true) : one1At L i = false := by
  unfold one1At; rw [List.all_eq_false]
  refine ⟨j, List.mem_range.2 hj, ?_⟩
  have hj' : j < L.length := by omega
  simp [hi, hj'] at *
  simpa [hi] using h
theorem one1At_all {L : List (List Int)} {i : Nat} (hi : i < L.length) (h : ∀ j (hj : j < L.length), j < i → eqI L[i] L[j] = false) : one1At L i = true := by
  unfold one1At; rw [List.all_eq_true]
  intro j hj
  have hj := List.mem_range.1 hj
  have hj' : j < L.length := by omega
  have := h j hj' hj
  simpa [hi, hj'] using this
theorem eqI_symm (xs ys : List Int) : eqI xs ys = eqI ys xs := by unfold eqI; by_cases h : xs = ys <;> simp [h, eq_comm]
theorem one1At_idx {L : List (List Int)} {i : Nat} (hi : i < L.length) : (idxR (fun r => eqI r L[i]) L != (i : Int)) = !one1At L i := by
  cases h : one1At L i
  · have : ∃ j, ∃ hj : j < L.length, j < i ∧ eqI L[i] L[j] = true := by
      apply Classical.byContradiction
      intro hn
      have := one1At_all hi (fun j hj hji => by
        cases e : eqI L[i] L[j]
        · rfl
        · exact absurd ⟨j, hj, hji, e⟩ hn)
      rw [h] at this; cases this
    obtain ⟨j, hj, hji, he⟩ := this
    have hlt : idxR (fun r => eqI r L[i]) L < (i : Int) := by
      unfold idxR
      cases e : L.findIdx? (fun r => eqI r L[i]) with
      | none => simp; omega
      | some m =>
        obtain ⟨hm, h1, h2⟩ := List.findIdx?_eq_some_iff_getElem.1 e
        simp only
        rcases Nat.lt_or_ge m i with hh | hh
        · omega
        · have := h2 j (by omega)
          rw [eqI_symm, he] at this
          simp at this
    simp; omega
  · have : idxR (fun r => eqI r L[i]) L = i := idxR_some hi (fun j hj hji => by
      have := h
      unfold one1At at this
      rw [List.all_eq_true] at this
      have := this j (List.mem_range.2 hji)
      rw [eqI_symm]
      simpa [hi, hj] using this) (eqI_refl _)
    simp [this]
def oneV (c : Int) (ts : List T4) (L : List (List Int)) : Bool := isSetB c ts && areBlocksB ts.length L && one1 L
set_option maxRecDepth 100000 in
set_option maxHeartbeats 1000000 in
theorem implIsOneToOne_c (c : Int) (ts : List T4) (A : Option Addr) (cx : Nat) (L : List (List Int)) (B : Option Addr) (cr : Nat) (w : World) (hT : TileCells w A ts) (hl : ts.length ≤ 1000000000) (hR : RowsC w B L) (hn : L.length ≤ 1000000000) (hS : Short 1000000000 L) :
    Calls Try.prog 10 #[.agg #[.int .i64 c, .slice A ts.length cx], .slice B L.length cr] w fun e w' => e = .returned (.tuple #[.bool (oneV c ts L), .int .i64 (codeB (isSetB c ts) (areBlocksB ts.length L))]) ∧ Below w.heap.size w w' := by
  have HC := Lib.hid (fun (wq : World) (hq : Below w.heap.size w wq) => blocksCode_c c ts A cx L B cr 31 #[] true wq (fun _ _ => rfl) (hT.below hq) hl (hR.below hq) hn hS (fun _ _ w1 _ => always_c w1))
  rw [Bool.and_true] at HC
  have HR := Lib.hid hR
  have HV : Hid (oneV c ts L = (isSetB c ts && areBlocksB ts.length L && one1 L)) := rfl
  clear hT hR
  generalize isSetB c ts = s at *
  generalize areBlocksB ts.length L = a at *
  cases s
  · have HF := Lib.hid HV.out
    go_enter Try.func10, Try.ntmps10
    go_wp2_with fail
    refine (HC.out _ (by (repeat (first | (with_reducible exact Below.refl _ _) | (with_reducible assumption) | (with_reducible refine below_al ?_) | (with_reducible refine below_dr ?_) | (with_reducible refine below_drN ?_) | (with_reducible refine below_set ?_ (by first | exact Nat.le_refl _ | (dsimp only; omega) | omega)) | (with_reducible refine below_tr (by with_reducible assumption) ?_))))).mono ?_
    rintro e w1 ⟨rfl, hb1⟩
    have Hw1 : Hid (Below w.heap.size w w1) := by (show Below _ _ _); (repeat (first | (with_reducible exact Below.refl _ _) | (with_reducible assumption) | (with_reducible refine below_al ?_) | (with_reducible refine below_dr ?_) | (with_reducible refine below_drN ?_) | (with_reducible refine below_set ?_ (by first | exact Nat.le_refl _ | (dsimp only; omega) | omega)) | (with_reducible refine below_tr (by with_reducible assumption) ?_)))
    clear hb1
    go_wp2
    go_ret2
    exact ⟨ret_bc HF.out.symm rfl, Hw1.out⟩
  · cases a
    · have HF := Lib.hid HV.out
      go_enter Try.func10, Try.ntmps10
      go_wp2_with fail
      refine (HC.out _ (by (repeat (first | (with_reducible exact Below.refl _ _) | (with_reducible assumption) | (with_reducible refine below_al ?_) | (with_reducible refine below_dr ?_) | (with_reducible refine below_drN ?_) | (with_reducible refine below_set ?_ (by first | exact Nat.le_refl _ | (dsimp only; omega) | omega)) | (with_reducible refine below_tr (by with_reducible assumption) ?_))))).mono ?_
      rintro e w1 ⟨rfl, hb1⟩
      have Hw1 : Hid (Below w.heap.size w w1) := by (show Below _ _ _); (repeat (first | (with_reducible exact Below.refl _ _) | (with_reducible assumption) | (with_reducible refine below_al ?_) | (with_reducible refine below_dr ?_) | (with_reducible refine below_drN ?_) | (with_reducible refine below_set ?_ (by first | exact Nat.le_refl _ | (dsimp only; omega) | omega)) | (with_reducible refine below_tr (by with_reducible assumption) ?_)))
      clear hb1
      go_wp2
      go_ret2
      exact ⟨ret_bc HF.out.symm rfl, Hw1.out⟩
    · have HV2 : Hid (oneV c ts L = one1 L) := HV.out
      rw [show codeB true true = 0 from rfl] at HC ⊢
      go_enter Try.func10, Try.ntmps10
      go_wp2_with fail
      refine (HC.out _ (by (repeat (first | (with_reducible exact Below.refl _ _) | (with_reducible assumption) | (with_reducible refine below_al ?_) | (with_reducible refine below_dr ?_) | (with_reducible refine below_drN ?_) | (with_reducible refine below_set ?_ (by first | exact Nat.le_refl _ | (dsimp only; omega) | omega)) | (with_reducible refine below_tr (by with_reducible assumption) ?_))))).mono ?_
      rintro e w1 ⟨rfl, hb1⟩
      have Hw1 : Hid (Below w.heap.size w w1) := by (show Below _ _ _); (repeat (first | (with_reducible exact Below.refl _ _) | (with_reducible assumption) | (with_reducible refine below_al ?_) | (with_reducible refine below_dr ?_) | (with_reducible refine below_drN ?_) | (with_reducible refine below_set ?_ (by first | exact Nat.le_refl _ | (dsimp only; omega) | omega)) | (with_reducible refine below_tr (by with_reducible assumption) ?_)))
      clear hb1
      go_wp2_with fail
      go_loopw [17] (fun i wr => ∃ k : Nat, k ≤ L.length ∧ i = .int .i64 k ∧ Hid (∀ j, j < k → one1At L j = true) ∧ Below w.heap.size w wr) (fun i _ => L.length - (intOf i).toNat)
      case atStart => exact ⟨0, by omega, rfl, fun j hj => by omega, Hw1.out⟩
      case round =>
        obtain ⟨k, hk, rfl, Hn, hb⟩ := hrel
        have Hb := Lib.hid hb
        by_cases h1 : k < L.length
        · obtain ⟨b, off, A1, c1, e1, hlt, c0, r1⟩ := (HR.out.below hb) k h1
          have HX := Lib.hid (blockIndex_c L L[k] B A1 cr c1 wr (HR.out.below hb) r1 hn hS (hS k h1))
          have HI := Lib.hid (one1At_idx h1)
          have HBad := Lib.hid (one1_bad h1)
          subst e1
          clear r1 hb hS
          generalize idxR (fun r => eqI r L[k]) L = z at *
          cases ho : one1At L k
          · have hz : (z != (k : Int)) = true := by rw [HI.out, ho]; rfl
            have HF := Lib.hid (HBad.out ho)
            clear HI ho
            go_wp2_with fail
            refine HX.out.mono ?_
            rintro e w2 ⟨rfl, hb2⟩
            go_wp2
            go_ret2
            exact ⟨ret_bc (by rw [HV2.out, HF.out]) rfl, by have h3 := Hb.out; (repeat (first | (with_reducible exact Below.refl _ _) | (with_reducible assumption) | (with_reducible refine below_al ?_) | (with_reducible refine below_dr ?_) | (with_reducible refine below_drN ?_) | (with_reducible refine below_set ?_ (by first | exact Nat.le_refl _ | (dsimp only; omega) | omega)) | (with_reducible refine below_tr (by with_reducible assumption) ?_)))⟩
          · have hz : (z != (k : Int)) = false := by rw [HI.out, ho]; rfl
            have HF := Lib.hid ho
            clear HI ho
            go_wp2_with fail
            refine HX.out.mono ?_
            rintro e w2 ⟨rfl, hb2⟩
            go_wp2
            go_roundw
            case rel => exact ⟨k + 1, by omega, by go_num, fun j hj => by
              by_cases e : j = k
              · subst e; exact HF.out
              · exact Hn.out j (by omega), by have h3 := Hb.out; (repeat (first | (with_reducible exact Below.refl _ _) | (with_reducible assumption) | (with_reducible refine below_al ?_) | (with_reducible refine below_dr ?_) | (with_reducible refine below_drN ?_) | (with_reducible refine below_set ?_ (by first | exact Nat.le_refl _ | (dsimp only; omega) | omega)) | (with_reducible refine below_tr (by with_reducible assumption) ?_)))⟩
            case measure => simp [intOf]; omega
        · have HF := Lib.hid (one1_all (fun j hj => Hn.out j (by omega)))
          go_wp2
          go_ret2
          exact ⟨ret_bc (by rw [HV2.out, HF.out]) rfl, hb⟩

end Go.Proofs.Ytkgnejhflnekaaa
