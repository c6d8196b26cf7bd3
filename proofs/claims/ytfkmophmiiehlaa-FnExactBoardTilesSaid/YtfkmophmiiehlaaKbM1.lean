/- Contracts and lemmas for the statements of this seat, written for this claim; each theorem states its own conditions. -/
import Derived.Test.YtfkmophmiiehlaaKbJ6
import Derived.Test.YtfkmophmiiehlaaKbMk
set_option linter.unusedVariables false
set_option linter.unusedSimpArgs false
namespace Go.Proofs.Ytfkmophmiiehlaa
open Go.RowKit
attribute [local go_sem] addUpon_value addUpon_skip addUpon_enter
theorem infoTs : (Try.prog.info? 29).map (fun i => (i.zero, i.size, i.bytes)) = some (some (.slice none 0 0), 1, 24) := by kernel_rfl
theorem OwnT.shape {w : World} {B : Nat} {v : Value} {ts : List T4} (h : OwnT w B v ts) : ∃ A cx, v = .slice A ts.length cx ∧ TileCells w A ts ∧ True := by
  obtain ⟨A, cx, e, hT⟩ := h.tiles
  exact ⟨A, cx, e, hT, trivial⟩
theorem own_apartT {w1 w2 : World} {B : Nat} {v u : Value} {xs ys : List T4} (hv : OwnT w1 B v xs) (hu : OwnT w2 w1.heap.size u ys) : (v.ownBlock = none ∨ v.ownBlock ≠ u.ownBlock) ∧ (u.ownBlock = none ∨ u.ownBlock ≠ v.ownBlock) := by
  cases e1 : v.ownBlock with
  | none => exact ⟨.inl rfl, by cases e2 : u.ownBlock with | none => exact .inl rfl | some k => exact .inr (by simp)⟩
  | some j =>
    cases e2 : u.ownBlock with
    | none => exact ⟨.inr (by simp), .inl rfl⟩
    | some k =>
      have h1 := (World.ownsRow.lt hv j e1).2
      have h2 := (World.ownsRow.lt hu k e2).1
      exact ⟨.inr (by simp; omega), .inr (by simp; omega)⟩
theorem OwnT.same {w w' : World} {B : Nat} {v : Value} {xs : List T4} (h : OwnT w B v xs) (hs : ∀ k, B ≤ k → k < w.heap.size → w'.heap[k]? = w.heap[k]?) : OwnT w' B v xs :=
  ownsRow_same h fun k hk => hs k (World.ownsRow.lt h k hk).1 (World.ownsRow.lt h k hk).2
/-- the tiles that marking leaves -/
def marksT (k n : Nat) : List T4 := (List.range n).map fun j => ⟨((k + j * 4 : Nat) : Int), ((k + j * 4 + 1 : Nat) : Int), ((k + j * 4 + 2 : Nat) : Int), ((k + j * 4 + 3 : Nat) : Int)⟩
theorem marksT_len (k n : Nat) : (marksT k n).length = n := by simp [marksT]
theorem tcells_marksT (k : Nat) : ∀ n, tcells (marksT k n) = ints (marks k (n * 4))
  | 0 => by simp [marksT, tcells, marks, ints]
  | n + 1 => by
    have e : marksT k (n + 1) = marksT k n ++ [⟨((k + n * 4 : Nat) : Int), ((k + n * 4 + 1 : Nat) : Int), ((k + n * 4 + 2 : Nat) : Int), ((k + n * 4 + 3 : Nat) : Int)⟩] := by simp [marksT, List.range_succ]
    rw [e, tcells_snoc, tcells_marksT k n, show (n + 1) * 4 = n * 4 + 1 + 1 + 1 + 1 by omega]
    simp [marks, ints, List.range_succ]
    omega
theorem OwnTc.toT {w : World} {B : Nat} {v : Value} {n k : Nat} (h : OwnTc w B v n (ints (marks k (n * 4)))) : OwnT w B v (marksT k n) := by
  unfold OwnT
  rw [tcells_marksT, marksT_len]
  exact h
/-- a slice of slices of numbers reads as a list of lists -/
def RowsT (w : World) (B : Option Addr) (L : List (List T4)) : Prop :=
  ∀ k (h : k < L.length), ∃ b off A cx, B = some ⟨b, off, none⟩ ∧ b < w.heap.size ∧ w.cell? ⟨b, off + k, none⟩ = some (.slice A L[k].length cx) ∧ TileCells w A L[k]
theorem RowsT.below {w w1 : World} {B : Option Addr} {L : List (List T4)} (h : RowsT w B L) (hb : Below w.heap.size w w1) : RowsT w1 B L := by
  intro k hk
  obtain ⟨b, off, A, cx, e, hlt, hc, hr⟩ := h k hk
  exact ⟨b, off, A, cx, e, Nat.lt_of_lt_of_le hlt hb.size, (hb.cell (p := ⟨b, _, none⟩) hlt).trans hc, hr.below hb⟩
theorem RowsT.pair {w : World} {b off : Nat} {L : List (List T4)} (h : RowsT w (some ⟨b, off, none⟩) L) (k : Nat) (hk : k < L.length) : ∃ A cx, w.cell? ⟨b, off + k, none⟩ = some (.slice A L[k].length cx) ∧ TileCells w A L[k] := by
  obtain ⟨b', off', A, cx, e, hlt, hc, hr⟩ := h k hk
  injection e with e
  injection e with e1 e2
  subst e1 e2
  exact ⟨A, cx, hc, hr⟩
def totT (L : List (List T4)) : Nat := (L.map fun r => r.length * 4).sum
theorem totT_take {L : List (List T4)} {k : Nat} (hk : k < L.length) : totT (L.take (k + 1)) = totT (L.take k) + L[k].length * 4 := by
  unfold totT; rw [List.take_succ_eq_append_getElem hk, List.map_append, List.sum_append]; simp
def ShortT (n : Nat) (L : List (List T4)) : Prop := ∀ k (h : k < L.length), L[k].length ≤ n
/-- a slice of slices of numbers that the call made and owns, its rows apart from each other -/
def OwnTT (w : World) (B : Nat) (v : Value) (L : List (List T4)) : Prop :=
  ∃ vs : List Value, w.ownsRow B 29 1 v L.length vs ∧ (∀ i (h : i < vs.length) (h' : i < L.length), OwnT w B vs[i] L[i]) ∧
    (∀ i j (h : i < vs.length) (h' : j < vs.length), i ≠ j → Apart vs[i] vs[j]) ∧ ∀ i (h : i < vs.length), Apart vs[i] v
theorem OwnTT.rows {w : World} {B : Nat} {v : Value} {L : List (List T4)} (h : OwnTT w B v L) : ∃ A cx, v = .slice A L.length cx ∧ RowsT w A L := by
  obtain ⟨vs, h1, h2, _⟩ := h
  have hl : vs.length = L.length := by have := h1.1; omega
  obtain ⟨_, h3⟩ := h1
  rcases h3 with ⟨rfl, h3⟩ | ⟨g, cap, cur, rfl, e2, e3, e4, e5, e6, e7⟩
  · exact ⟨none, 0, by rw [h3], fun k hk => by omega⟩
  · refine ⟨some ⟨g, 0, none⟩, cap, rfl, fun k hk => ?_⟩
    obtain ⟨A, cx, e, hc, _⟩ := (h2 k (by omega) hk).shape
    refine ⟨g, 0, A, cx, rfl, (Array.getElem?_eq_some_iff.1 e3).1, ?_, hc⟩
    rw [Nat.zero_add]
    unfold World.cell?
    simp only [e3]
    have hk2 : k < vs.length := by omega
    have h9 : (cur.toList.take (L.length * 1))[k]? = some (vs[k]'hk2) := by rw [e7]; exact List.getElem?_eq_getElem hk2
    rw [List.getElem?_take] at h9
    simp [hk] at h9
    simp [h9, e]
def eqTTs (xs ys : List (List T4)) : Bool := decide (xs = ys)
theorem eqTTs_refl (xs : List (List T4)) : eqTTs xs xs = true := by simp [eqTTs]
theorem eqTTs_len {xs ys : List (List T4)} (h : xs.length ≠ ys.length) : eqTTs xs ys = false := by
  simp only [eqTTs, decide_eq_false_iff_not]; intro e; exact h (by rw [e])
theorem eqTTs_bad {xs ys : List (List T4)} {k : Nat} (h1 : k < xs.length) (h2 : k < ys.length) (h : eqTs xs[k] ys[k] = false) : eqTTs xs ys = false := by
  simp only [eqTTs, decide_eq_false_iff_not]; intro e; subst e; simp [eqTs] at h
theorem eqTTs_all {xs ys : List (List T4)} (hl : xs.length = ys.length) (h : ∀ j (h1 : j < xs.length) (h2 : j < ys.length), eqTs xs[j] ys[j] = true) : eqTTs xs ys = true := by
  simp only [eqTTs, decide_eq_true_eq]
  exact List.ext_getElem hl fun j h1 h2 => by simpa [eqTs] using h j h1 h2
set_option maxRecDepth 100000 in
set_option maxHeartbeats 1000000 in
theorem eqTileSS_c (xs ys : List (List T4)) (A B : Option Addr) (cx cy : Nat) (w : World) (hx : RowsT w A xs) (hy : RowsT w B ys) (lx : xs.length ≤ 1000000000) (ly : ys.length ≤ 1000000000) (sx : ShortT 1000000000 xs) (sy : ShortT 1000000000 ys) :
    Calls Try.prog 24 #[.slice A xs.length cx, .slice B ys.length cy] w fun e w' => e = .returned (.bool (eqTTs xs ys)) ∧ Below w.heap.size w w' := by
  by_cases hl : xs.length = ys.length
  · have HL := Lib.hid hl
    have hl' : ((xs.length : Int) != (ys.length : Int)) = false := by simp; omega
    have hl2 : ys.length ≤ xs.length := by omega
    have hl3 : xs.length ≤ ys.length := by omega
    clear hl
    go_enter Try.func24, Try.ntmps24
    go_wp2
    go_loopw [5] (fun i wr => ∃ k : Nat, k ≤ xs.length ∧ i = .int .i64 k ∧ Hid (∀ j (h1 : j < xs.length) (h2 : j < ys.length), j < k → eqTs xs[j] ys[j] = true) ∧ Below w.heap.size w wr) (fun i _ => xs.length - (intOf i).toNat)
    case atStart => exact ⟨0, by omega, rfl, fun j _ _ h => by omega, Below.refl _ _⟩
    case round =>
      obtain ⟨k, hk, rfl, Hn, hb⟩ := hrel
      have Hb := Lib.hid hb
      by_cases h1 : k < xs.length
      · have h2 : k < ys.length := by omega
        obtain ⟨b, off, A1, c1, rfl, hlt, c0, r1⟩ := (hx.below hb) k h1
        obtain ⟨b', off', B1, d1, rfl, hlt', d0, r2⟩ := (hy.below hb) k h2
        have HA := Lib.hid (fun w (hc : TileCells w A1 (xs[k]'h1)) (hd : TileCells w B1 (ys[k]'h2)) => eqTileS_c (xs[k]'h1) (ys[k]'h2) A1 B1 c1 d1 w hc hd (sx k h1) (sy k h2))
        have R1 := Lib.hid r1
        have R2 := Lib.hid r2
        have HBad := Lib.hid (eqTTs_bad h1 h2)
        have HE : Hid (eqTs xs[k] ys[k] = true → ∀ j (h1 : j < xs.length) (h2 : j < ys.length), j < k + 1 → eqTs xs[j] ys[j] = true) := fun hE j h1 h2 hj => by
          by_cases e : j = k
          · subst e; exact hE
          · exact Hn.out j h1 h2 (by omega)
        have e0 := keepC c0
        have f0 := keepC d0
        clear c0 d0 r1 r2 hx hy hb sx sy
        generalize eqTs xs[k] ys[k] = r at *
        cases r
        · have HE := Lib.hid (HBad.out rfl)
          go_wp2_with fail
          refine wp_region_add (fun w' => Below (wr).heap.size (wr) w') (by kernel_rfl) (by kernel_rfl) ((Below.refl _ _).drew) ?_
          repeat (first
            | (refine add_skip rfl (fun K' hK' => ?_); go_simp; refine hK' _ ?_; clear hK' K')
            | (refine add_do (v := ?_) rfl (fun w1 hb => ?_) (fun K' hK' => ?_); rotate_left
               · go_simp
                 first
                 | (with_reducible exact rfl)
                 | (with_reducible exact ⟨rfl, hb⟩)
                 | (with_reducible exact (addCall (HA.out w1 (R1.out.below hb) (R2.out.below hb)) hb).2)
                 | exact (addCall (HA.out w1 (R1.out.below hb) (R2.out.below hb)) hb).2
                 | exact rfl
                 | exact ⟨rfl, hb⟩
               go_simp; refine hK' _ ?_; clear hK' K'))
          refine add_nil ?_
          intro wa hba
          go_wp2
          go_ret
          exact ⟨ret_bool HE.out.symm, by have h3 := Hb.out; (repeat (first | (with_reducible exact Below.refl _ _) | (with_reducible assumption) | (with_reducible refine below_al ?_) | (with_reducible refine below_dr ?_) | (with_reducible refine below_drN ?_) | (with_reducible refine below_set ?_ (by first | exact Nat.le_refl _ | (dsimp only; omega) | omega)) | (with_reducible refine below_tr (by with_reducible assumption) ?_)))⟩
        · have HE2 := Lib.hid (HE.out rfl)
          go_wp2_with fail
          refine wp_region_add (fun w' => Below (wr).heap.size (wr) w') (by kernel_rfl) (by kernel_rfl) ((Below.refl _ _).drew) ?_
          repeat (first
            | (refine add_skip rfl (fun K' hK' => ?_); go_simp; refine hK' _ ?_; clear hK' K')
            | (refine add_do (v := ?_) rfl (fun w1 hb => ?_) (fun K' hK' => ?_); rotate_left
               · go_simp
                 first
                 | (with_reducible exact rfl)
                 | (with_reducible exact ⟨rfl, hb⟩)
                 | (with_reducible exact (addCall (HA.out w1 (R1.out.below hb) (R2.out.below hb)) hb).2)
                 | exact (addCall (HA.out w1 (R1.out.below hb) (R2.out.below hb)) hb).2
                 | exact rfl
                 | exact ⟨rfl, hb⟩
               go_simp; refine hK' _ ?_; clear hK' K'))
          refine add_nil ?_
          intro wa hba
          go_wp2
          go_roundw
          case rel => exact ⟨k + 1, by omega, by go_num, HE2, by have h3 := Hb.out; (repeat (first | (with_reducible exact Below.refl _ _) | (with_reducible assumption) | (with_reducible refine below_al ?_) | (with_reducible refine below_dr ?_) | (with_reducible refine below_drN ?_) | (with_reducible refine below_set ?_ (by first | exact Nat.le_refl _ | (dsimp only; omega) | omega)) | (with_reducible refine below_tr (by with_reducible assumption) ?_)))⟩
          case measure => simp [intOf]; omega
      · have hE := Lib.hid (eqTTs_all HL.out (fun j h1 h2 => Hn.out j h1 h2 (by omega)))
        clear hx hy sx sy
        go_wp2
        go_ret
        exact ⟨ret_bool hE.out.symm, hb⟩
  · have hR := Lib.hid (eqTTs_len hl)
    have hl' : ((xs.length : Int) != (ys.length : Int)) = true := by simp; omega
    clear hl
    go_enter Try.func24, Try.ntmps24
    go_wp2
    go_ret
    exact ⟨ret_bool hR.out.symm, Below.refl _ _⟩
def marksTT : Nat → List (List T4) → List (List T4)
  | _, [] => []
  | k, r :: L => marksT k r.length :: marksTT (k + r.length * 4) L
theorem marksTT_len : ∀ (L : List (List T4)) (k : Nat), (marksTT k L).length = L.length
  | [], _ => rfl
  | r :: L, k => by simp [marksTT, marksTT_len L]
theorem totT_nil : totT [] = 0 := rfl
theorem totT_cons (r : List T4) (L : List (List T4)) : totT (r :: L) = r.length * 4 + totT L := by simp [totT]
theorem totT_take_le : ∀ (L : List (List T4)) (j : Nat), totT (L.take j) ≤ totT L
  | [], j => by simp [totT]
  | r :: L, 0 => by simp [totT]
  | r :: L, j + 1 => by simp only [List.take_succ_cons, totT_cons]; have := totT_take_le L j; omega
theorem marksTT_get : ∀ (L : List (List T4)) (k j : Nat) (h : j < (marksTT k L).length) (h' : j < L.length), (marksTT k L)[j] = marksT (k + totT (L.take j)) L[j].length
  | r :: L, k, 0, _, _ => by simp [marksTT, totT]
  | r :: L, k, j + 1, h, h' => by
    simp only [marksTT, List.getElem_cons_succ, List.take_succ_cons, totT_cons]
    rw [marksTT_get L (k + r.length * 4) j (by simpa [marksTT] using h) (by simpa using h')]
    congr 1; omega
/-- j rows marked, the others as they were -/
def marksTTo (k : Nat) (L : List (List T4)) (j : Nat) : List (List T4) := (marksTT k L).take j ++ L.drop j
theorem marksTTo_len (k : Nat) (L : List (List T4)) (j : Nat) (hj : j ≤ L.length) : (marksTTo k L j).length = L.length := by simp [marksTTo, marksTT_len]; omega
theorem marksTTo_get (k : Nat) (L : List (List T4)) (j i : Nat) (h : i < (marksTTo k L j).length) (hj : j ≤ L.length) (h' : i < L.length) :
    (marksTTo k L j)[i] = if i < j then marksT (k + totT (L.take i)) L[i].length else L[i] := by
  apply Option.some.inj
  rw [← List.getElem?_eq_getElem h]
  unfold marksTTo
  by_cases hi : i < j
  · rw [if_pos hi, List.getElem?_append_left (by simp [marksTT_len]; omega), List.getElem?_take_of_lt hi, List.getElem?_eq_getElem (by rw [marksTT_len]; exact h'), marksTT_get L k i (by rw [marksTT_len]; exact h') h']
  · rw [if_neg hi, List.getElem?_append_right (by simp [marksTT_len]; omega), List.getElem?_drop, ← List.getElem?_eq_getElem h']
    congr 1
    simp [marksTT_len]; omega
theorem marksTTo_all (k : Nat) (L : List (List T4)) : marksTTo k L L.length = marksTT k L := by
  unfold marksTTo
  rw [List.take_of_length_le (by rw [marksTT_len]; exact Nat.le_refl _), List.drop_of_length_le (Nat.le_refl _), List.append_nil]
/-- as OwnTT, and the blocks of the rows lie ahead of N -/
def OwnTN (w : World) (B N : Nat) (v : Value) (L : List (List T4)) : Prop :=
  ∃ vs : List Value, w.ownsRow B 29 1 v L.length vs ∧ (∀ i (h : i < vs.length) (h' : i < L.length), OwnT w B vs[i] L[i]) ∧
    (∀ i j (h : i < vs.length) (h' : j < vs.length), i ≠ j → Apart vs[i] vs[j]) ∧ (∀ i (h : i < vs.length), Apart vs[i] v) ∧ ∀ i (h : i < vs.length) k, vs[i].ownBlock = some k → k < N
theorem OwnTT.toN {w : World} {B : Nat} {v : Value} {L : List (List T4)} (h : OwnTT w B v L) : OwnTN w B w.heap.size v L := by
  obtain ⟨vs, h1, h2, h3, h4⟩ := h
  have hl : vs.length = L.length := by have := h1.1; omega
  exact ⟨vs, h1, h2, h3, h4, fun i hi k hk => (World.ownsRow.lt (h2 i hi (by omega)) k hk).2⟩
theorem OwnTN.toII {w : World} {B N : Nat} {v : Value} {L : List (List T4)} (h : OwnTN w B N v L) : OwnTT w B v L := by
  obtain ⟨vs, h1, h2, h3, h4, _⟩ := h
  exact ⟨vs, h1, h2, h3, h4⟩
theorem OwnTN.same {w w' : World} {B N : Nat} {v : Value} {L : List (List T4)} (h : OwnTN w B N v L) (hs : ∀ k, B ≤ k → k < w.heap.size → w'.heap[k]? = w.heap[k]?) : OwnTN w' B N v L := by
  obtain ⟨vs, h1, h2, h3, h4, h5⟩ := h
  exact ⟨vs, ownsRow_same h1 fun k hk => hs k (World.ownsRow.lt h1 k hk).1 (World.ownsRow.lt h1 k hk).2, fun i hi hi' => (h2 i hi hi').same hs, h3, h4, h5⟩
theorem OwnTT.same {w w' : World} {B : Nat} {v : Value} {L : List (List T4)} (h : OwnTT w B v L) (hs : ∀ k, B ≤ k → k < w.heap.size → w'.heap[k]? = w.heap[k]?) : OwnTT w' B v L := by
  obtain ⟨vs, h1, h2, h3, h4⟩ := h
  exact ⟨vs, ownsRow_same h1 fun k hk => hs k (World.ownsRow.lt h1 k hk).1 (World.ownsRow.lt h1 k hk).2, fun i hi hi' => (h2 i hi hi').same hs, h3, h4⟩
theorem markTT1_c (v : Value) (ts : List T4) (k B : Nat) (w : World) (hO : OwnT w B v ts) (hn : ts.length ≤ 1000000000) (hk : k ≤ 1000000000000) :
    Calls Try.prog 27 #[v, .int .i64 k] w fun e w' => e = .returned (.int .i64 ((k + ts.length * 4 : Nat) : Int)) ∧ OwnT w' B v (marksT k ts.length) ∧ w.grownBy w' v.ownBlock :=
  (markT_c ts.length (tcells ts) v k B w hO hn hk).mono fun e w' ⟨h1, h2, h3⟩ => ⟨h1, h2.toT, h3⟩
theorem TileCells.cell4 {w : World} {A : Option Addr} {ts : List T4} (h : TileCells w A ts) (j : Nat) (hj : j < ts.length) : ∃ b off, A = some ⟨b, off, none⟩ ∧ ∀ q, q < 4 → w.cell? ⟨b, off + j * 4 + q, none⟩ = (ints ts[j].l)[q]? := by
  obtain ⟨b, off, rfl, _, c0, c1, c2, c3⟩ := h j hj
  refine ⟨b, off, rfl, fun q hq => ?_⟩
  have : q = 0 ∨ q = 1 ∨ q = 2 ∨ q = 3 := by omega
  rcases this with rfl | rfl | rfl | rfl
  · simpa [ints, T4.l] using c0
  · simpa [ints, T4.l] using c1
  · simpa [ints, T4.l] using c2
  · simpa [ints, T4.l] using c3
theorem marksT_cell (k n j q : Nat) (hj : j < (marksT k n).length) (hq : q < 4) : (ints ((marksT k n)[j]).l)[q]? = some (.int .i64 ((k : Int) + j * 4 + q)) := by
  have e : (marksT k n)[j] = ⟨((k + j * 4 : Nat) : Int), ((k + j * 4 + 1 : Nat) : Int), ((k + j * 4 + 2 : Nat) : Int), ((k + j * 4 + 3 : Nat) : Int)⟩ := by simp [marksT]
  rw [e]
  have : q = 0 ∨ q = 1 ∨ q = 2 ∨ q = 3 := by omega
  rcases this with rfl | rfl | rfl | rfl <;> simp [ints, T4.l]
set_option maxRecDepth 100000 in
set_option maxHeartbeats 1000000 in
theorem heldTT1_c (A : Option Addr) (k n cx : Nat) (w : World) (hC : TileCells w A (marksT k n)) (hn : n ≤ 1000000000) (hk : k ≤ 1000000000000) :
    Calls Try.prog 71 #[.slice A n cx, .int .i64 k] w fun e w' => e = .returned (.int .i64 ((k + n * 4 : Nat) : Int)) ∧ w = w' := by
  have HO := Lib.hid hC
  clear hC
  go_enter Try.func71, Try.ntmps71
  go_wp2
  go_loop [1, 5] (fun m i => ∃ j : Nat, j ≤ n ∧ m = .int .i64 ((k + j * 4 : Nat) : Int) ∧ i = .int .i64 j) (fun _ i => n - (intOf i).toNat)
  case atStart => exact ⟨0, by omega, by simp, rfl⟩
  case round =>
    obtain ⟨j, hj, rfl, rfl⟩ := hrel
    by_cases hjn : j < n
    · obtain ⟨b, off, rfl, hc⟩ := HO.out.cell4 j (by rw [marksT_len]; exact hjn)
      have HC := Lib.hid hc
      clear hc
      go_wp2_with fail
      go_loop [1, 6] (fun m i => ∃ q : Nat, q ≤ 4 ∧ m = .int .i64 ((k + j * 4 + q : Nat) : Int) ∧ i = .int .i64 q) (fun _ i => 4 - (intOf i).toNat)
      case atStart => exact ⟨0, by omega, by simp, rfl⟩
      case round =>
        obtain ⟨q, hq, rfl, rfl⟩ := hrel
        by_cases hq4 : q < 4
        · have r0 := HC.out q hq4
          rw [marksT_cell k n j q (by rw [marksT_len]; exact hjn) hq4] at r0
          go_wp2_with fail
          go_round
          case rel => exact ⟨q + 1, by omega, by go_num, by go_num⟩
          case measure => simp [intOf]; omega
        · obtain rfl : q = 4 := by omega
          go_wp2_with fail
          go_round
          case rel => exact ⟨j + 1, by omega, by go_num, by go_num⟩
          case measure => simp [intOf]; omega
    · obtain rfl : j = n := by omega
      go_wp2
      go_ret
      exact ⟨rfl, rfl⟩
set_option maxRecDepth 100000 in
set_option maxHeartbeats 1000000 in
theorem markTileSS_c (L : List (List T4)) (v : Value) (k B N : Nat) (w : World) (hO : OwnTN w B N v L) (hB : B ≤ w.heap.size) (hl : L.length ≤ 1000000000) (hS : ShortT 1000000000 L) (hk : k + totT L ≤ 1000000000000) :
    Calls Try.prog 29 #[v, .int .i64 k] w fun e w' => e = .returned (.int .i64 ((k + totT L : Nat) : Int)) ∧ OwnTN w' B N v (marksTT k L) ∧ Touch B N w w' := by
  obtain ⟨vs, h1, h2, h3, h4, h6⟩ := hO
  have H6 := Lib.hid h6
  have hvl : vs.length = L.length := by have := h1.1; omega
  have hsh : ∃ A cx, v = .slice A L.length cx := by
    obtain ⟨_, h5⟩ := h1
    rcases h5 with ⟨rfl, h5⟩ | ⟨g, cap, cur, rfl, _⟩
    · exact ⟨none, 0, by rw [h5]⟩
    · exact ⟨_, _, rfl⟩
  obtain ⟨A, cx, rfl⟩ := hsh
  have H1 := Lib.hid h1
  have H2 := Lib.hid h2
  have H3 := Lib.hid h3
  have H4 := Lib.hid h4
  have HT := Lib.hid (totT_take_le L)
  have HVL := Lib.hid hvl
  clear h1 h2 h3 h4 h6 hvl
  go_enter Try.func29, Try.ntmps29
  go_wp2
  go_loopw [1, 5] (fun m i wr => ∃ j : Nat, j ≤ L.length ∧ m = .int .i64 ((k + totT (L.take j) : Nat) : Int) ∧ i = .int .i64 j ∧ Hid (wr.ownsRow B 29 1 (.slice A L.length cx) L.length vs) ∧
    Hid (∀ i (h : i < vs.length) (h' : i < (marksTTo k L j).length), OwnT wr B vs[i] (marksTTo k L j)[i]) ∧ Touch B N w wr) (fun _ i _ => L.length - (intOf i).toNat)
  case atStart => exact ⟨0, by omega, by simp [totT], rfl, H1.out, fun i h h' => by
    have hh : i < L.length := by rw [← HVL.out]; exact h
    have := H2.out i h hh
    rw [marksTTo_get k L 0 i h' (by omega) hh]
    simpa using this, Touch.refl _ _ _⟩
  case round =>
    obtain ⟨j, hj, rfl, rfl, HR, HO, hb⟩ := hrel
    have Hb := Lib.hid hb
    by_cases hjL : j < L.length
    · have hjv : j < vs.length := by rw [HVL.out]; exact hjL
      have hjm : j < (marksTTo k L j).length := by rw [marksTTo_len k L j hj]; exact hjL
      have o1 := HO.out j hjv hjm
      rw [marksTTo_get k L j j hjm hj hjL, if_neg (by omega)] at o1
      have h0 := HR.out
      obtain ⟨hA1, hA2⟩ := h0
      rcases hA2 with ⟨e1, e2⟩ | ⟨g, cap, cur, e1, e2, e3, _⟩
      · omega
      · injection e1 with e1 _ e1c
        subst e1 e1c
        have hc := World.ownsRow.cellAt HR.out j (by omega)
        rw [List.getElem?_eq_getElem hjv] at hc
        have HM := Lib.hid (markTT1_c vs[j] L[j] (k + totT (L.take j)) B wr o1 (hS j hjL) (by have := HT.out j; omega))
        have HTT := Lib.hid (totT_take hjL)
        generalize hvj : vs[j] = vj at *
        have HVJ := Lib.hid hvj
        have hjv2 : j < L.length := hjL
        clear hA1 e3 o1 hb hvj hS
        go_wp2_with fail
        refine HM.out.mono ?_
        rintro e w1 ⟨rfl, hO1, hg⟩
        have HO1 := Lib.hid hO1
        have HG := Lib.hid hg
        clear hO1 hg
        go_wp2
        go_roundw
        case rel =>
          refine ⟨j + 1, by omega, by rw [HTT.out]; go_num, by go_num, World.ownsRow.kept HR.out HG.out ?_, fun i h h' => ?_, ?_⟩
          · have := (H4.out j hjv).symm
            rw [HVJ.out] at this
            exact this
          · have hiL : i < L.length := by rw [← HVL.out]; exact h
            rw [marksTTo_get k L (j + 1) i h' (by omega) hiL]
            by_cases e : i = j
            · subst e
              rw [if_pos (by omega), HVJ.out]
              exact HO1.out
            · have him : i < (marksTTo k L j).length := by rw [marksTTo_len k L j hj]; exact hiL
              have o2 := HO.out i h him
              rw [marksTTo_get k L j i him hj hiL] at o2
              have hap := H3.out i j h hjv e
              rw [HVJ.out] at hap
              have o3 := o2.grown HG.out hap
              by_cases e2 : i < j
              · rw [if_pos (by omega)]; rw [if_pos e2] at o3; exact o3
              · rw [if_neg (by omega)]; rw [if_neg e2] at o3; exact o3
          · refine Hb.out.grow HG.out (fun q hq => ?_)
            have o2 := HO.out j hjv hjm
            rw [HVJ.out] at o2
            have o3 := H6.out j hjv q
            rw [HVJ.out] at o3
            exact ⟨(World.ownsRow.lt o2 q hq).1, o3 hq⟩
        case measure => simp [intOf]; omega
    · obtain rfl : j = L.length := by omega
      clear hb
      rw [List.take_length]
      go_wp2
      go_ret
      refine ⟨rfl, ⟨vs, by rw [marksTT_len]; exact HR.out, fun i h h' => ?_, H3.out, H4.out, H6.out⟩, Hb.out⟩
      have hiL : i < L.length := by rw [← HVL.out]; exact h
      have := HO.out i h (by rw [marksTTo_len k L _ (Nat.le_refl _)]; exact hiL)
      simp only [marksTTo_all] at this
      exact this
set_option maxRecDepth 100000 in
set_option maxHeartbeats 1000000 in
theorem heldTileSS_c (L : List (List T4)) (A : Option Addr) (k cx : Nat) (w : World) (hR : RowsT w A (marksTT k L)) (hl : L.length ≤ 1000000000) (hS : ShortT 1000000000 L) (hk : k + totT L ≤ 1000000000000) :
    Calls Try.prog 30 #[.slice A L.length cx, .int .i64 k] w fun e w' => e = .returned (.int .i64 ((k + totT L : Nat) : Int)) ∧ w = w' := by
  have HT := Lib.hid (totT_take_le L)
  go_enter Try.func30, Try.ntmps30
  go_wp2
  go_loop [1, 5] (fun m i => ∃ j : Nat, j ≤ L.length ∧ m = .int .i64 ((k + totT (L.take j) : Nat) : Int) ∧ i = .int .i64 j) (fun _ i => L.length - (intOf i).toNat)
  case atStart => exact ⟨0, by omega, by simp [totT], rfl⟩
  case round =>
    obtain ⟨j, hj, rfl, rfl⟩ := hrel
    by_cases hjL : j < L.length
    · have hjm : j < (marksTT k L).length := by rw [marksTT_len]; exact hjL
      obtain ⟨b, off, A1, c1, rfl, hlt, hc, hr⟩ := hR j hjm
      rw [marksTT_get L k j hjm hjL] at hc hr
      rw [marksT_len] at hc
      have HM := Lib.hid (heldTT1_c A1 (k + totT (L.take j)) L[j].length c1 w hr (hS j hjL) (by have := HT.out j; omega))
      have HTT := Lib.hid (totT_take hjL)
      have hb := HT.out (j + 1)
      rw [HTT.out] at hb
      generalize L[j].length = n at *
      clear hr hR hS
      go_wp2_with fail
      refine HM.out.mono ?_
      rintro e w1 ⟨rfl, rfl⟩
      go_wp2
      go_round
      case rel => exact ⟨j + 1, by omega, by rw [HTT.out]; go_num, by go_num⟩
      case measure => simp [intOf]; omega
    · obtain rfl : j = L.length := by omega
      rw [List.take_length]
      clear hR hS
      go_wp2
      go_ret
      exact ⟨rfl, rfl⟩
theorem OwnTT.kept {w w' : World} {B : Nat} {v : Value} {L : List (List T4)} {row : Option Nat} (h : OwnTT w B v L) (hg : w.grownBy w' row) (hr : ∀ k, row = some k → k < B) : OwnTT w' B v L := by
  obtain ⟨vs, h1, h2, h3, h4⟩ := h
  have ne : ∀ (u : Value) (n : Nat) (xs : List Value) (e : TypeId) (s : Nat), w.ownsRow B e s u n xs → u.ownBlock = none ∨ u.ownBlock ≠ row := fun u n xs e s ho => by
    cases eu : u.ownBlock with
    | none => exact .inl rfl
    | some k =>
      right
      have := (World.ownsRow.lt ho k eu).1
      intro e2
      have := hr k e2.symm
      omega
  exact ⟨vs, World.ownsRow.kept h1 hg (ne _ _ _ _ _ h1), fun i hi hi' => World.ownsRow.kept (h2 i hi hi') hg (ne _ _ _ _ _ (h2 i hi hi')), h3, h4⟩
theorem OwnTT.below {w w1 : World} {B : Nat} {v : Value} {L : List (List T4)} (h : OwnTT w B v L) (hb : Below w.heap.size w w1) : OwnTT w1 B v L := by
  obtain ⟨vs, h1, h2, h3, h4⟩ := h
  refine ⟨vs, ?_, fun i hi hi' => (h2 i hi hi').below hb, h3, h4⟩
  exact World.ownsRow.kept (row := none) h1 ⟨hb.os, hb.tape, hb.output, hb.size, fun k hk _ => hb.block k hk⟩ (by cases h : v.ownBlock with | none => exact .inl rfl | some k => exact .inr (by simp))
theorem OwnTT.weaken {w : World} {B B' : Nat} {v : Value} {L : List (List T4)} (h : OwnTT w B v L) (hB : B' ≤ B) : OwnTT w B' v L := by
  obtain ⟨vs, ⟨a1, a2⟩, h2, h3, h4⟩ := h
  refine ⟨vs, ⟨a1, ?_⟩, fun i hi hi' => (h2 i hi hi').weaken hB, h3, h4⟩
  rcases a2 with a2 | ⟨g, cap, cur, e1, e2, e3⟩
  · exact .inl a2
  · exact .inr ⟨g, cap, cur, e1, Nat.le_trans hB e2, e3⟩
theorem OwnTT.nil (w : World) (B : Nat) : OwnTT w B (.slice none 0 0) [] := ⟨[], World.ownsRow_nil _ _ _ _, fun i h => by simp at h, fun i j h => by simp at h, fun i h => by simp at h⟩
theorem OwnTT.empty {w : World} {B g : Nat} (hg : w.heap.size = g) (hB : B ≤ w.heap.size) : OwnTT (w.alloc (.cells #[] 29)) B (.slice (some ⟨g, 0, none⟩) 0 0) [] := by
  subst hg
  exact ⟨[], World.ownsRow_lit (base := B) (e := 29) (size := 1) w #[] 0 hB (by simp [maxLen]) (by simp), fun i h => by simp at h, fun i j h => by simp at h, fun i h => by simp at h⟩
theorem OwnT.to2 {w w1 : World} {B : Nat} {v : Value} {xs : List T4} (h : OwnT w B v xs) (hb : Below w.heap.size w w1) : OwnT w1 B v xs := h.below hb
/-- a list of numbers, new, is appended to an owned list of lists -/
theorem app_trow {o : Oper} {a : Act} {W0 W : World} {K : Act → World → Prop} {Q : Exit → Act → World → Prop} (s x : Operand)
    (ho : o.op = .call { callee := .builtin .append, args := #[s, x], argTypes := #[41, 41] }) (B : Nat) (v : Value) (L : List (List T4)) (u : Value) (xs : List T4) (hs : a.eval s = v) (hown : OwnTT W0 B v L)
    (hW : Below W0.heap.size W0 W) (hu : OwnT W W0.heap.size u xs)
    (b off : Nat) (hx : a.eval x = .slice (some ⟨b, off, none⟩) 1 1) (hc : W.cell? ⟨b, off, none⟩ = some u) (hl : L.length ≤ 1000000000000) (hB : B ≤ W0.heap.size)
    (h : ∀ v' w', OwnTT w' B v' (L ++ [xs]) → W.grownBy w' v.ownBlock → (∀ k, v.ownBlock = some k → B ≤ k) → K (a.put o.dst v') w') : o.wp Try.prog a W K Q := by
  obtain ⟨vs, g1, g2, h3, h4⟩ := hown
  have h1 : W.ownsRow B 29 1 v L.length vs := World.ownsRow.kept (row := none) g1 ⟨hW.os, hW.tape, hW.output, hW.size, fun k hk _ => hW.block k hk⟩ (by cases h : v.ownBlock with | none => exact .inl rfl | some k => exact .inr (by simp))
  have h2 : ∀ i (h : i < vs.length) (h' : i < L.length), OwnT W B vs[i] L[i] := fun i h h' => (g2 i h h').below hW
  have hvl : vs.length = L.length := by have := h1.1; omega
  refine app_gen s x 41 29 (.slice none 0 0) 1 24 ho Try.underlying41 infoTs rfl (by decide) B v L.length vs hs h1 ⟨b, off, none⟩ 1 1 [u] hx rfl ?_ ?_ ?_ ?_ (Nat.le_trans hB hW.size) ?_
  · intro j z hj
    cases j with
    | zero => simp at hj; subst hj; simpa [Addr.add] using hc
    | succ j => simp at hj
  · intro z hz
    simp at hz; subst hz
    obtain ⟨A, cx, rfl, _⟩ := hu.shape
    rfl
  · simp [maxLen]; omega
  · omega
  · intro v' w' k1 k2 k3
    have hvb := World.ownsRow.lt h1
    have hub := World.ownsRow.lt hu
    have hvb0 : ∀ k, v.ownBlock = some k → k < W0.heap.size := fun k hk => (World.ownsRow.lt g1 k hk).2
    have huv : Apart u v := by
      cases eu : u.ownBlock with
      | none => exact .inl eu
      | some k =>
        right; rw [eu]; intro e
        have := (hub k eu).1
        have := hvb0 k e.symm
        omega
    refine h v' w' ⟨vs ++ [u], by rw [List.length_append]; exact k1, fun i hi hi' => ?_, fun i j hi hj hij => ?_, fun i hi => ?_⟩ k2 (fun k hk => (hvb k hk).1)
    · by_cases e : i < vs.length
      · have e' : i < L.length := by omega
        rw [List.getElem_append_left e, List.getElem_append_left e']
        exact (h2 i e e').grown k2 (h4 i e)
      · have ei : i = vs.length := by simp at hi; omega
        subst ei
        rw [List.getElem_append_right (Nat.le_refl _), List.getElem_append_right (by omega)]
        simp only [Nat.sub_self, List.getElem_cons_zero, hvl]
        exact (hu.weaken hB).grown k2 huv
    · have far : ∀ q (hq : q < vs.length), Apart vs[q] u := fun q hq => (own_apartT (g2 q hq (by omega)) hu).1
      by_cases e : i < vs.length
      · by_cases e2 : j < vs.length
        · rw [List.getElem_append_left e, List.getElem_append_left e2]; exact h3 i j e e2 hij
        · rw [List.getElem_append_left e, List.getElem_append_right (by omega)]
          simp only [show j - vs.length = 0 by simp at hj; omega, List.getElem_cons_zero]
          exact far i e
      · have e2 : j < vs.length := by simp at hi hj; omega
        rw [List.getElem_append_left e2, List.getElem_append_right (by omega)]
        simp only [show i - vs.length = 0 by simp at hi; omega, List.getElem_cons_zero]
        exact (far j e2).symm
    · by_cases e : i < vs.length
      · rw [List.getElem_append_left e]
        exact ((h4 i e).symm.app (fun k hk => ((h2 i e (by omega)).blt k hk).2) k3).symm
      · rw [List.getElem_append_right (by omega)]
        simp only [show i - vs.length = 0 by simp at hi; omega, List.getElem_cons_zero]
        exact (huv.symm.app (fun k hk => (hu.blt k hk).2) k3).symm
theorem wpl_app_trow {ops : Array Oper} {rest : List Oper} {o : Oper} {a : Act} {W0 W : World} {Q : Exit → Act → World → Prop} (hgd : o.guard = none) (s x : Operand)
    (ho : o.op = .call { callee := .builtin .append, args := #[s, x], argTypes := #[41, 41] }) (B : Nat) (v : Value) (L : List (List T4)) (u : Value) (xs : List T4) (hs : a.eval s = v) (hown : OwnTT W0 B v L)
    (hW : Below W0.heap.size W0 W) (hu : OwnT W W0.heap.size u xs)
    (b off : Nat) (hx : a.eval x = .slice (some ⟨b, off, none⟩) 1 1) (hc : W.cell? ⟨b, off, none⟩ = some u) (hl : L.length ≤ 1000000000000) (hB : B ≤ W0.heap.size)
    (h : ∀ v' w', OwnTT w' B v' (L ++ [xs]) → W.grownBy w' v.ownBlock → (∀ k, v.ownBlock = some k → B ≤ k) → wpList Try.prog ops Q rest (a.put o.dst v') w') : wpList Try.prog ops Q (o :: rest) a W :=
  wpList_plain hgd fun _ hK => app_trow s x ho B v L u xs hs hown hW hu b off hx hc hl hB fun v' w' h1 h2 h3 => hK _ _ (h v' w' h1 h2 h3)

end Go.Proofs.Ytfkmophmiiehlaa
