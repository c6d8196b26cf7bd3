/- Contracts and lemmas for the statements of this seat, written for this claim; each theorem states its own conditions. -/
import Derived.Test.YtnoehaphbpkpjaaGreatFoTr1
import Derived.Test.YtnoehaphbpkpjaaGreatFoBy
import Derived.Test.YtnoehaphbpkpjaaGreatFoTm1
set_option linter.unusedVariables false
set_option linter.unusedSimpArgs false
namespace Go.Proofs.YtnoehaphbpkpjaaGreat
open Go.RowKit
def memB (L : List (List Int)) (word : List Int) : Bool := L.any fun r => eqI r word
theorem idxR_any (p : List Int → Bool) (L : List (List Int)) : decide (0 ≤ idxR p L) = L.any p := by
  unfold idxR
  cases h : L.findIdx? p with
  | none =>
    rw [List.findIdx?_eq_none_iff] at h
    have : L.any p = false := by rw [List.any_eq_false]; intro x hx; simp [h x hx]
    simp [this]
  | some i =>
    rw [List.findIdx?_eq_some_iff_getElem] at h
    obtain ⟨hi, hp, _⟩ := h
    have : L.any p = true := List.any_eq_true.2 ⟨_, List.getElem_mem hi, hp⟩
    simp [this]
set_option maxRecDepth 100000 in
set_option maxHeartbeats 1000000 in
theorem containsFuncR_c (L : List (List Int)) (A : Option Addr) (cx : Nat) (k : FuncId) (caps : Array Value) (p : List Int → Bool) (w : World)
    (hk : ∀ args w, Sem.run Tryz.prog (callFunc k args) w = .ok (.enter k args) w) (hx : RowsC w A L) (hl : L.length ≤ 1000000000) (hp : PredR w k caps p L) :
    Calls Tryz.prog 67 #[.slice A L.length cx, .func (.func k) #[] caps] w fun e w' => e = .returned (.bool (L.any p)) ∧ Below w.heap.size w w' := by
  have H := Lib.hid (indexFuncR_c L A cx k caps p w hk hx hl hp)
  have Hr := Lib.hid (idxR_any p L)
  clear hx hp hk
  generalize idxR p L = r at *
  generalize L.any p = q at *
  go_enter Tryz.func67, Tryz.ntmps67
  go_wp2_with (go_at_call 105; refine H.out.mono ?_; rintro e w1 ⟨rfl, hb1⟩)
  go_ret
  exact ⟨ret_bool Hr.out, hb1⟩
set_option maxRecDepth 100000 in
set_option maxHeartbeats 1000000 in
theorem lfHas1_c (xs ys : List Int) (A B : Option Addr) (cx cy b : Nat) (w : World) (hx : Cells w A (ints xs)) (hy : Cells w B (ints ys)) (lx : xs.length ≤ 1000000000) (ly : ys.length ≤ 1000000000) (h0 : w.cell? ⟨b, 0, none⟩ = some (.slice B ys.length cy)) :
    Calls Tryz.prog 68 #[.slice A xs.length cx, .pointer (some ⟨b, 0, none⟩)] w fun e w' => e = .returned (.bool (eqI xs ys)) ∧ Below w.heap.size w w' := by
  have H := Lib.hid (slicesEqual_c xs ys A B cx cy w hx hy lx ly)
  clear hx hy
  go_enter Tryz.func68, Tryz.ntmps68
  go_wp2_with fail
  refine H.out.mono ?_
  rintro e w1 ⟨rfl, hb⟩
  go_wp2
  go_ret
  exact ⟨rfl, hb⟩
set_option maxRecDepth 100000 in
set_option maxHeartbeats 1000000 in
theorem lfHas_c (L : List (List Int)) (row : List Int) (A B : Option Addr) (cx cy : Nat) (w : World) (hx : RowsC w A L) (hy : Cells w B (ints row)) (hl : L.length ≤ 1000000000) (hS : Short 1000000000 L) (lr : row.length ≤ 1000000000) :
    Calls Tryz.prog 66 #[.slice A L.length cx, .slice B row.length cy] w fun e w' => e = .returned (.bool (memB L row)) ∧ Below w.heap.size w w' := by
  have H := Lib.hid (fun (wq : World) (hq : Below w.heap.size w wq) (b : Nat) h0 => containsFuncR_c L A cx 68 #[.pointer (some ⟨b, 0, none⟩)] (fun r => eqI r row) wq (fun _ _ => rfl) (hx.below hq) hl
    (fun j hj A1 c1 w1 hb hc => lfHas1_c L[j] row A1 B c1 cy b w1 hc ((hy.below hq).below hb) (hS j hj) lr (keepC h0 _ hb)))
  clear hx hy
  go_enter Tryz.func66, Tryz.ntmps66
  go_wp2_with fail
  refine (H.out _ (by (repeat (first | (with_reducible exact Below.refl _ _) | (with_reducible assumption) | (with_reducible refine below_al ?_) | (with_reducible refine below_dr ?_) | (with_reducible refine below_drN ?_) | (with_reducible refine below_set ?_ (by first | exact Nat.le_refl _ | (dsimp only; omega) | omega)) | (with_reducible refine below_tr (by with_reducible assumption) ?_)))) _ ?_).mono ?_
  · (repeat (first | (exact cell_al _ _ _ _ _ _ (by simp) rfl) | (refine cell_alloc_old _ _ _ _ _ ?_)))
  rintro e w1 ⟨rfl, hb1⟩
  go_wp2
  go_ret
  exact ⟨rfl, by (repeat (first | (with_reducible exact Below.refl _ _) | (with_reducible assumption) | (with_reducible refine below_al ?_) | (with_reducible refine below_dr ?_) | (with_reducible refine below_drN ?_) | (with_reducible refine below_set ?_ (by first | exact Nat.le_refl _ | (dsimp only; omega) | omega)) | (with_reducible refine below_tr (by with_reducible assumption) ?_)))⟩
theorem memB_bad {L : List (List Int)} {word : List Int} (h : ∀ j (h : j < L.length), eqI L[j] word = false) : memB L word = false := by
  unfold memB
  rw [List.any_eq_false]
  intro x hx
  obtain ⟨j, hj, rfl⟩ := List.getElem_of_mem hx
  simp [h j hj]
theorem memB_good {L : List (List Int)} {word : List Int} {j : Nat} (h : j < L.length) (he : eqI L[j] word = true) : memB L word = true := by
  unfold memB
  exact List.any_eq_true.2 ⟨_, List.getElem_mem h, he⟩
set_option maxRecDepth 100000 in
set_option maxHeartbeats 1000000 in
theorem l10Member_c (L : List (List Int)) (row : List Int) (A B : Option Addr) (cx cy : Nat) (w : World) (hx : RowsC w A L) (hy : Cells w B (ints row)) (hl : L.length ≤ 1000000000) (hS : Short 1000000000 L) (lr : row.length ≤ 1000000000) :
    Calls Tryz.prog 73 #[.slice A L.length cx, .slice B row.length cy] w fun e w' => e = .returned (.bool (memB L row)) ∧ Below w.heap.size w w' := by
  have HX := Lib.hid hx
  have HY := Lib.hid hy
  clear hx hy
  go_enter Tryz.func73, Tryz.ntmps73
  go_wp2
  go_loopw [5] (fun i wr => ∃ k : Nat, k ≤ L.length ∧ i = .int .i64 k ∧ Hid (∀ j (h : j < L.length), j < k → eqI L[j] row = false) ∧ Hid (Below w.heap.size w wr)) (fun i _ => L.length - (intOf i).toNat)
  case atStart => exact ⟨0, by omega, rfl, fun j _ h => by omega, Lib.hid (Below.refl _ _)⟩
  case round =>
    obtain ⟨k, hk, rfl, Hn, Hb⟩ := hrel
    by_cases h1 : k < L.length
    · obtain ⟨b, off, A1, c1, rfl, hlt, c0, r1⟩ := (HX.out.below Hb.out) k h1
      have HE := Lib.hid (l10Equal_c L[k] row A1 B c1 cy wr r1 (HY.out.below Hb.out) (hS k h1) lr)
      have HN := Lib.hid (show eqI L[k] row = false → ∀ j (h : j < L.length), j < k + 1 → eqI L[j] row = false from fun e j h hj => by
        by_cases e2 : j = k
        · subst e2; exact e
        · exact Hn.out j h (by omega))
      have HG := Lib.hid (fun e => memB_good (word := row) h1 e)
      generalize eqI L[k] row = q at *
      clear r1
      cases q
      · have HN2 := Lib.hid (HN.out rfl)
        go_wp2_with fail
        refine HE.out.mono ?_
        rintro e w1 ⟨rfl, hb1⟩
        have Hb1 := Lib.hid (Hb.out.trans (hb1.mono Hb.out.size))
        clear hb1
        go_wp2
        go_roundw
        case rel => exact ⟨k + 1, by omega, by go_num, HN2, Hb1⟩
        case measure => simp [intOf]; omega
      · have HG2 := Lib.hid (HG.out rfl)
        go_wp2_with fail
        refine HE.out.mono ?_
        rintro e w1 ⟨rfl, hb1⟩
        have Hb1 := Lib.hid (Hb.out.trans (hb1.mono Hb.out.size))
        clear hb1
        go_wp2
        go_ret
        exact ⟨ret_bool HG2.out.symm, Hb1.out⟩
    · have HF := Lib.hid (memB_bad (L := L) (word := row) (fun j h => Hn.out j h (by omega)))
      go_wp2
      go_ret
      exact ⟨ret_bool HF.out.symm, Hb.out⟩
/-- a list of lists that is read, away from a block -/
def RowsX (w : World) (B : Option Addr) (L : List (List Int)) (o : Option Nat) : Prop :=
  ∀ k (h : k < L.length), ∃ b off r ro cx, B = some ⟨b, off, none⟩ ∧ b < w.heap.size ∧ some b ≠ o ∧ w.cell? ⟨b, off + k, none⟩ = some (.slice (some ⟨r, ro, none⟩) L[k].length cx) ∧ r < w.heap.size ∧ some r ≠ o ∧
    ∀ j (hj : j < L[k].length), w.cell? ⟨r, ro + j, none⟩ = some (.int .i64 L[k][j])
theorem RowsX.rows {w : World} {B : Option Addr} {L : List (List Int)} {o : Option Nat} (h : RowsX w B L o) : RowsC w B L := by
  intro k hk
  obtain ⟨b, off, r, ro, cx, e, h1, h2, h3, h4, h5, h6⟩ := h k hk
  exact ⟨b, off, _, cx, e, h1, h3, fun j hj => ⟨r, ro, rfl, by simpa [ints] using h6 j (by simpa [ints] using hj)⟩⟩
theorem grown_cell {w w' : World} {o : Option Nat} {p : Addr} (hg : w.grownBy w' o) (h1 : p.block < w.heap.size) (h2 : some p.block ≠ o) : w'.cell? p = w.cell? p := by
  unfold World.cell?; rw [hg.block p.block h1 (fun e => h2 (by rw [← e]))]
theorem RowsX.kept {w w' : World} {B : Option Addr} {L : List (List Int)} {o : Option Nat} (h : RowsX w B L o) (hg : w.grownBy w' o) : RowsX w' B L o := by
  intro k hk
  obtain ⟨b, off, r, ro, cx, e, h1, h2, h3, h4, h5, h6⟩ := h k hk
  exact ⟨b, off, r, ro, cx, e, Nat.lt_of_lt_of_le h1 hg.size, h2, (grown_cell (p := ⟨b, off + k, none⟩) hg h1 h2).trans h3, Nat.lt_of_lt_of_le h4 hg.size, h5, fun j hj => (grown_cell (p := ⟨r, ro + j, none⟩) hg h4 h5).trans (h6 j hj)⟩
theorem RowsX.below {w w' : World} {B : Option Addr} {L : List (List Int)} {o : Option Nat} (h : RowsX w B L o) (hb : Below w.heap.size w w') : RowsX w' B L o := by
  intro k hk
  obtain ⟨b, off, r, ro, cx, e, h1, h2, h3, h4, h5, h6⟩ := h k hk
  exact ⟨b, off, r, ro, cx, e, Nat.lt_of_lt_of_le h1 hb.size, h2, (hb.cell (p := ⟨b, off + k, none⟩) h1).trans h3, Nat.lt_of_lt_of_le h4 hb.size, h5, fun j hj => (hb.cell (p := ⟨r, ro + j, none⟩) h4).trans (h6 j hj)⟩
theorem RowsX.other {w : World} {B : Option Addr} {L : List (List Int)} {o o' : Option Nat} (h : RowsX w B L o) (ho : ∀ q, o' = some q → o = some q ∨ w.heap.size ≤ q) : RowsX w B L o' := by
  intro k hk
  obtain ⟨b, off, r, ro, cx, e, h1, h2, h3, h4, h5, h6⟩ := h k hk
  refine ⟨b, off, r, ro, cx, e, h1, fun e2 => ?_, h3, h4, fun e2 => ?_, h6⟩
  · rcases ho b e2.symm with h7 | h7
    · exact h2 h7.symm
    · omega
  · rcases ho r e2.symm with h7 | h7
    · exact h5 h7.symm
    · omega
/-- behind an append to a list in block o that now lies in o' -/
theorem RowsX.step {w w' : World} {B : Option Addr} {L : List (List Int)} {o o' : Option Nat} (h : RowsX w B L o) (hg : w.grownBy w' o) (ho : ∀ q, o' = some q → o = some q ∨ w.heap.size ≤ q) : RowsX w' B L o' := by
  intro k hk
  obtain ⟨b, off, r, ro, cx, e, h1, h2, h3, h4, h5, h6⟩ := h k hk
  have hne : ∀ b, b < w.heap.size → some b ≠ o → some b ≠ o' := fun b hb hn e2 => by
    rcases ho b e2.symm with h7 | h7
    · exact hn h7.symm
    · omega
  exact ⟨b, off, r, ro, cx, e, Nat.lt_of_lt_of_le h1 hg.size, hne b h1 h2, (grown_cell (p := ⟨b, off + k, none⟩) hg h1 h2).trans h3, Nat.lt_of_lt_of_le h4 hg.size, hne r h4 h5, fun j hj => (grown_cell (p := ⟨r, ro + j, none⟩) hg h4 h5).trans (h6 j hj)⟩
theorem OwnII.rowsX {w : World} {B : Nat} {v : Value} {L : List (List Int)} {o : Option Nat} (h : OwnII w B v L) (hne : ∀ r ∈ L, 0 < r.length) (ho : ∀ q, o = some q → q < B) : ∃ A cx, v = .slice A L.length cx ∧ RowsX w A L o := by
  obtain ⟨A, cx, rfl, _⟩ := h.rows
  refine ⟨A, cx, rfl, fun k hk => ?_⟩
  obtain ⟨vs, h1, h2, h3, h4⟩ := id h
  have hp := hne _ (List.getElem_mem hk)
  obtain ⟨gv, g, cr, rfl, a1, a2, a3, a4, a5, _⟩ := h.at2 k hk 0 hp
  refine ⟨gv, 0, g, 0, cr, rfl, a2, fun e => by have := ho gv e.symm; omega, by rw [Nat.zero_add]; exact a3, a5, fun e => by have := ho g e.symm; omega, fun j hj => ?_⟩
  obtain ⟨gv', g', cr', e1, _, _, b3, _, _, b6, _⟩ := h.at2 k hk j hj
  injection e1 with e1; injection e1 with e1 _; subst e1
  rw [a3] at b3
  injection b3 with b3; injection b3 with b3 _ _; injection b3 with b3; injection b3 with b3 _; subst b3
  rw [Nat.zero_add]; exact b6
def lfRow (before now : List (List Int)) (b : List Int) (x : Nat) : List (List Int) := (List.range x).flatMap fun y : Nat => if (memB before ((b ++ [(y : Int)]).drop 1) && !memB now (b ++ [(y : Int)])) = true then [b ++ [(y : Int)]] else []
def lfAdd (before now : List (List Int)) (c k : Nat) : List (List Int) := (before.take k).flatMap fun b => lfRow before now b c
def lfTo (S : Nat) (cols : List Col) (c : Nat) : Nat → List (List Int)
  | 0 => []
  | m + 1 => lfTo S cols c m ++ lfAdd (trWords S cols c m) (trWords S cols c (m + 1)) c (trWords S cols c m).length
theorem lfRow_succ (before now : List (List Int)) (b : List Int) (x : Nat) : lfRow before now b (x + 1) = lfRow before now b x ++ if (memB before ((b ++ [(x : Int)]).drop 1) && !memB now (b ++ [(x : Int)])) = true then [b ++ [(x : Int)]] else [] := by
  unfold lfRow; rw [List.range_succ, List.flatMap_append]; simp
theorem lfAdd_succ (before now : List (List Int)) (c k : Nat) (h : k < before.length) : lfAdd before now c (k + 1) = lfAdd before now c k ++ lfRow before now before[k] c := by
  unfold lfAdd; rw [List.take_succ_eq_append_getElem h, List.flatMap_append]; simp
theorem lfRow_len (before now : List (List Int)) (b : List Int) : ∀ x, (lfRow before now b x).length ≤ x
  | 0 => by simp [lfRow]
  | x + 1 => by
    have := lfRow_len before now b x
    rw [lfRow_succ, List.length_append]
    split <;> simp <;> omega
theorem lfAdd_len (before now : List (List Int)) (c : Nat) : ∀ k, k ≤ before.length → (lfAdd before now c k).length ≤ k * c
  | 0, _ => by simp [lfAdd]
  | k + 1, h => by
    have h1 := lfAdd_len before now c k (by omega)
    have h2 := lfRow_len before now (before[k]'(by omega)) c
    rw [lfAdd_succ _ _ _ _ (by omega), List.length_append, Nat.succ_mul]
    omega
theorem lfRow_word {before now : List (List Int)} {b : List Int} {x : Nat} {r : List Int} (h : r ∈ lfRow before now b x) : r.length = b.length + 1 := by
  unfold lfRow at h
  rw [List.mem_flatMap] at h
  obtain ⟨y, _, h⟩ := h
  split at h
  · simp at h; subst h; simp
  · simp at h
theorem lfTo_len {S : Nat} {cols : List Col} {c : Nat} (hc : c ≤ 6) : ∀ m, (∀ j, j < m → (trWords S cols c j).length ≤ 200) → (lfTo S cols c m).length ≤ m * 1200
  | 0, _ => by simp [lfTo]
  | m + 1, h => by
    have h1 := lfTo_len hc m (fun j hj => h j (by omega))
    have h2 := lfAdd_len (trWords S cols c m) (trWords S cols c (m + 1)) c _ (Nat.le_refl _)
    have h3 := h m (by omega)
    have h4 : (trWords S cols c m).length * c ≤ 200 * 6 := Nat.mul_le_mul h3 hc
    rw [lfTo, List.length_append, Nat.succ_mul]
    omega
theorem lfTo_word {S : Nat} {cols : List Col} {c : Nat} : ∀ m, ∀ r ∈ lfTo S cols c m, r.length ≤ m
  | 0, r, h => by simp [lfTo] at h
  | m + 1, r, h => by
    rw [lfTo, List.mem_append] at h
    rcases h with h | h
    · have := lfTo_word m r h; omega
    · unfold lfAdd at h
      rw [List.mem_flatMap] at h
      obtain ⟨b, hb, h⟩ := h
      have h1 := exts_len S cols c m _ b (List.mem_of_mem_take hb)
      have h2 := lfRow_word h
      omega
def lfBad (S : Nat) (cols : List Col) (c n : Nat) : Bool := (List.range n).any fun m => decide (200 < (trWords S cols c (m + 1)).length)
def lfCode (c : Int) (ts : List T4) (h n : Int) : Int := if tsCode c ts h (inR 1 5 n) = 0 then (if lfBad (powC c h.toNat).toNat (lev c ts h.toNat) c.toNat n.toNat = true then 3 else 0) else tsCode c ts h (inR 1 5 n)
def lfVal (c : Int) (ts : List T4) (h n : Int) : List (List Int) := if lfCode c ts h n = 0 then lfTo (powC c h.toNat).toNat (lev c ts h.toNat) c.toNat n.toNat else []
theorem lfBad_false {S : Nat} {cols : List Col} {c n : Nat} (h : ∀ m, m < n → (trWords S cols c (m + 1)).length ≤ 200) : lfBad S cols c n = false := by
  unfold lfBad
  rw [List.any_eq_false]
  intro m hm
  have := h m (List.mem_range.1 hm)
  simp; omega
theorem lfBad_true {S : Nat} {cols : List Col} {c n m : Nat} (hm : m < n) (h : ¬ (trWords S cols c (m + 1)).length ≤ 200) : lfBad S cols c n = true := by
  unfold lfBad
  exact List.any_eq_true.2 ⟨m, List.mem_range.2 hm, by simp; omega⟩
set_option maxRecDepth 100000 in
set_option maxHeartbeats 1000000 in
theorem lf1_c (n : Int) (b : Nat) (w : World) (f0 : w.cell? ⟨b, 0, none⟩ = some (.int .i64 n)) : Calls Tryz.prog 64 #[.pointer (some ⟨b, 0, none⟩)] w fun e w' => e = .returned (.bool (inR 1 5 n)) ∧ Below w.heap.size w w' := by
  have HR := Lib.hid (fun w => within_c n 1 5 w)
  go_enter Tryz.func64, Tryz.ntmps64
  go_wp2_with fail
  refine (HR.out _).mono ?_
  rintro e w1 ⟨rfl, rfl⟩
  go_wp2
  go_ret
  exact ⟨rfl, Below.refl _ _⟩
set_option maxRecDepth 100000 in
set_option maxHeartbeats 3000000 in
theorem implLeastForbidden_c (c : Int) (ts : List T4) (A : Option Addr) (cx : Nat) (h n : Int) (w : World) (hT : TileCells w A ts) (hl : ts.length ≤ 1000000000) :
    Calls Tryz.prog 20 #[.agg #[.int .i64 c, .slice A ts.length cx], .int .i64 h, .int .i64 n] w fun e w' => ∃ v, e = .returned (.tuple #[v, .int .i64 (lfCode c ts h n)]) ∧ OwnII w' w.heap.size v (lfVal c ts h n) ∧ Below w.heap.size w w' := by
  have HC := Lib.hid (fun (wq : World) (hwq : Below w.heap.size w wq) (b : Nat) h0 => traceStrip_c c ts A cx h 64 #[.pointer (some ⟨b, 0, none⟩)] (inR 1 5 n) wq (fun _ _ => rfl) (hT.below hwq) hl
    (fun hs w1 hb => lf1_c n b w1 (keepC h0 _ hb)))
  have hv2 : lfCode c ts h n = if tsCode c ts h (inR 1 5 n) = 0 then (if lfBad (powC c h.toNat).toNat (lev c ts h.toNat) c.toNat n.toNat = true then 3 else 0) else tsCode c ts h (inR 1 5 n) := rfl
  have hv3 : lfVal c ts h n = if lfCode c ts h n = 0 then lfTo (powC c h.toNat).toNat (lev c ts h.toNat) c.toNat n.toNat else [] := rfl
  have hz := Lib.hid (tsCode_zero (c := c) (ts := ts) (h := h) (fine := inR 1 5 n))
  clear hT
  generalize hcode : tsCode c ts h (inR 1 5 n) = code at *
  go_enter Tryz.func20, Tryz.ntmps20
  go_wp2_with fail
  refine (HC.out _ (by (repeat (first | (with_reducible exact Below.refl _ _) | (with_reducible assumption) | (with_reducible refine below_al ?_) | (with_reducible refine below_dr ?_) | (with_reducible refine below_drN ?_) | (with_reducible refine below_set ?_ (by first | exact Nat.le_refl _ | (dsimp only; omega) | omega)) | (with_reducible refine below_tr (by with_reducible assumption) ?_)))) _ ?_).mono ?_
  · (repeat (first | (exact cell_al _ _ _ _ _ _ (by simp) rfl) | (refine cell_alloc_old _ _ _ _ _ ?_)))
  rintro e w1 ⟨hb1, ⟨hne, rfl⟩ | ⟨h0, g, hn, rfl, rfl, hg, hS⟩⟩
  · rw [hcode] at hne ⊢
    rw [if_neg hne] at hv2
    rw [hv2, if_neg hne] at hv3
    have Hw1 : Hid (Below w.heap.size w w1) := by (show Below _ _ _); (repeat (first | (with_reducible exact Below.refl _ _) | (with_reducible assumption) | (with_reducible refine below_al ?_) | (with_reducible refine below_dr ?_) | (with_reducible refine below_drN ?_) | (with_reducible refine below_set ?_ (by first | exact Nat.le_refl _ | (dsimp only; omega) | omega)) | (with_reducible refine below_tr (by with_reducible assumption) ?_)))
    have hcz : (code != 0) = true := by simp [hne]
    have HV2 := Lib.hid hv2
    have HV3 := Lib.hid hv3
    clear hb1 hne hcode hv2 hv3
    unfold stripEnd
    go_wp2
    go_ret2
    exact ⟨_, by rw [HV2.out]; rfl, by rw [HV3.out]; exact OwnII.nil _ _, Hw1.out⟩
  · obtain rfl : code = 0 := by rw [← hcode]; exact h0
    rw [if_pos rfl, Int.toNat_natCast] at hv2
    rw [Int.toNat_natCast] at hv3
    obtain ⟨hs, hf, n1, n3, hp⟩ := hz.out rfl
    rw [Int.toNat_natCast] at hp
    have hn5 : 1 ≤ n ∧ n ≤ 5 := by unfold inR at hf; simpa using hf
    obtain ⟨nn, rfl⟩ := Int.eq_ofNat_of_zero_le (by omega : 0 ≤ n)
    have Hw1 : Hid (Below w.heap.size w w1) := by (show Below _ _ _); (repeat (first | (with_reducible exact Below.refl _ _) | (with_reducible assumption) | (with_reducible refine below_al ?_) | (with_reducible refine below_dr ?_) | (with_reducible refine below_drN ?_) | (with_reducible refine below_set ?_ (by first | exact Nat.le_refl _ | (dsimp only; omega) | omega)) | (with_reducible refine below_tr (by with_reducible assumption) ?_)))
    have d0 : w1.cell? ⟨w.heap.size + 1, 0, none⟩ = some (.int .i64 nn) := by rw [(bcell hb1).1 _ _ (by simp)]; simp
    have d1 : w1.cell? ⟨w.heap.size, 0, none⟩ = some (.int .i64 c) := by rw [(bcell hb1).1 _ _ (by simp <;> omega)]; (repeat (first | (exact cell_al _ _ _ _ _ _ (by simp) rfl) | (refine cell_alloc_old _ _ _ _ _ ?_)))
    have D0 := Lib.hid (keepC d0)
    have D1 := Lib.hid (keepC d1)
    have hN : w.heap.size + 1 < w1.heap.size := by have := hb1.size; simp at this; omega
    obtain ⟨_, ⟨c1, c6⟩, h16⟩ := isSetB_parts hs
    have p1 := powC_4 c1 c6 (h := hn) (by omega)
    have hll := Nat.le_trans (lev_len c ts hn) (pow16 h16 (by omega : hn ≤ 3))
    have hcs := lev_Codes hs hn
    obtain ⟨cn, rfl⟩ := Int.eq_ofNat_of_zero_le (by omega : 0 ≤ c)
    have hcn := lev_ColN (cn := cn) rfl hs (n := hn) (by omega)
    obtain ⟨S, hS'⟩ := Int.eq_ofNat_of_zero_le (by omega : 0 ≤ powC cn hn)
    rw [hS'] at hS hcs p1 hp hv2 hv3
    rw [Int.toNat_natCast] at hcs
    simp only [Int.toNat_natCast] at hv2 hv3
    have HGo := Lib.hid (fun m wq hq h1 h2 => traces_c g cn S m 200 A ts.length cx hn (lev cn ts hn) wq h1 h2 (by decide) (by omega) (by omega) (by omega) hcs hcn (by omega) hq)
    have HS := Lib.hid hS
    have HV2 := Lib.hid hv2
    have HV3 := Lib.hid hv3
    have hcn6 : cn ≤ 6 := by omega
    clear hb1 hcode hS hcs hS' hz h0 hv2 hv3 hcn hs hf n1 n3 p1 hp hll d1
    generalize lev cn ts hn = cols at *
    have HW := Lib.hid (fun m => exts_len S cols cn m (List.replicate S true))
    unfold stripEnd
    go_wp2_with fail
    clear d0
    go_loopw [10, 11, 12] (fun ov bv iv wr => ∃ m : Nat, m ≤ nn ∧ iv = .int .i64 ((m : Int) + 1) ∧ Hid (OwnII wr w1.heap.size ov (lfTo S cols cn m)) ∧ (∃ Ab kb, bv = .slice Ab (trWords S cols cn m).length kb ∧ Hid (RowsX wr Ab (trWords S cols cn m) ov.ownBlock)) ∧ Hid (Below w1.heap.size w1 wr) ∧ Hid (∀ j, j < m → (trWords S cols cn (j + 1)).length ≤ 200)) (fun _ _ i _ => nn + 1 - (intOf i).toNat)
    case atStart =>
      refine ⟨0, by omega, by simp, Lib.hid ((OwnII.empty rfl (Nat.le_refl _)).below (by have h9 := Below.refl (w1.alloc (.cells #[] 39)).heap.size (w1.alloc (.cells #[] 39)); exact below_al (below_al h9))), ⟨some ⟨w1.heap.size + 2, 0, none⟩, 1, by simp [trWords, exts], Lib.hid ?_⟩, Lib.hid (by (repeat (first | (with_reducible exact Below.refl _ _) | (with_reducible assumption) | (with_reducible refine below_al ?_) | (with_reducible refine below_dr ?_) | (with_reducible refine below_drN ?_) | (with_reducible refine below_set ?_ (by first | exact Nat.le_refl _ | (dsimp only; omega) | omega)) | (with_reducible refine below_tr (by with_reducible assumption) ?_)))), Lib.hid (fun j hj => by omega)⟩
      intro k hk
      have hk0 : k = 0 := by simp [trWords, exts] at hk; omega
      subst hk0
      refine ⟨w1.heap.size + 2, 0, w1.heap.size + 1, 0, 0, rfl, by simp, (fun e => by have e : some (w1.heap.size + 2) = some w1.heap.size := e; injection e with e; omega), ?_, by simp, (fun e => by have e : some (w1.heap.size + 1) = some w1.heap.size := e; injection e with e; omega), fun j hj => by simp [trWords, exts] at hj⟩
      have h9 := cell_alloc_at ((w1.alloc (.cells #[] 39)).alloc (.cells #[] 2)) #[.slice (some ⟨w1.heap.size + 1, 0, none⟩) 0 0] 39 0 _ rfl
      simpa [trWords, exts] using h9
    case round =>
      obtain ⟨m, hm, rfl, HOm, ⟨Ab, kb, rfl, HXb⟩, HBm, HLm⟩ := hrel
      obtain ⟨wj, rfl⟩ : ∃ wj, wj = wr := ⟨wr, rfl⟩
      have d0 := D0.out _ HBm.out
      have hNj : w.heap.size + 1 < wj.heap.size := Nat.lt_of_lt_of_le hN HBm.out.size
      obtain ⟨Ao, ko, rfl, _⟩ := HOm.out.rows
      by_cases hmn : m < nn
      · have hmn' : (m : Int) + 1 ≤ (nn : Int) := by omega
        have HT := Lib.hid (HGo.out (m + 1) wj (HS.out.below HBm.out) (by omega) (by omega))
        have hm1 : ((m : Int) + 1) = ((m + 1 : Nat) : Int) := by omega
        have hbl : (trWords S cols cn m).length ≤ 200 := by
          cases m with
          | zero => simp [trWords, exts]
          | succ m => exact HLm.out m (by omega)
        have hol : (lfTo S cols cn m).length ≤ 6000 := by
          have h9 := lfTo_len (S := S) (cols := cols) hcn6 m (fun j hj => by
            cases j with
            | zero => simp [trWords, exts]
            | succ j => exact HLm.out j (by omega))
          omega
        have HSu : Hid (lfTo S cols cn (m + 1) = lfTo S cols cn m ++ lfAdd (trWords S cols cn m) (trWords S cols cn (m + 1)) cn (trWords S cols cn m).length) := rfl
        have HBd := Lib.hid (fun hb => lfBad_true (S := S) (cols := cols) (c := cn) (n := nn) (m := m) hmn hb)
        have HWb := Lib.hid (HW.out m)
        have HWn := Lib.hid (HW.out (m + 1))
        have HWb : Hid (∀ x ∈ trWords S cols cn m, x.length = m) := HWb
        have HWn : Hid (∀ x ∈ trWords S cols cn (m + 1), x.length = m + 1) := HWn
        have HOL := Lib.hid hol
        clear hol
        generalize lfTo S cols cn m = OT at *
        generalize hWm : trWords S cols cn m = Wb at *
        generalize hWn : trWords S cols cn (m + 1) = Wn at *
        have HWM := Lib.hid hWm
        have HWN := Lib.hid hWn
        clear hWm hWn
        rw [hm1]
        clear hm1
        go_wp2_with fail
        refine HT.out.mono ?_
        rintro e w2 ⟨hb2, v2, rfl, ⟨A', n', k', rfl⟩, ho⟩
        have HB2 := Lib.hid (HBm.out.trans (hb2.mono HBm.out.size))
        have HO2 := Lib.hid ho
        have Hb2 := Lib.hid hb2
        clear ho hb2
        by_cases hle : Wn.length ≤ 200
        · have e1 : decide (Wn.length ≤ 200) = true := decide_eq_true hle
          rw [e1]
          have hoo := HO2.out hle
          have hob : ∀ q, (Value.slice Ao OT.length ko).ownBlock = some q → q < wj.heap.size := fun q hq => (HOm.out.lt q hq).2
          obtain ⟨An, kn, en, hxn⟩ := hoo.rowsX (o := (Value.slice Ao OT.length ko).ownBlock) (fun r hr => by rw [HWn.out r hr]; omega) hob
          injection en with en1 en2 en3
          subst en1 en2 en3
          have HXn := Lib.hid hxn
          have HXb2 := Lib.hid (HXb.out.below Hb2.out)
          have HO3 := Lib.hid (HOm.out.below Hb2.out)
          have HLe := Lib.hid hle
          have d1 := D1.out _ HB2.out
          have hN2 : w.heap.size + 1 < w2.heap.size := Nat.lt_of_lt_of_le hN HB2.out.size
          have HShB := Lib.hid (show Short 1000000000 Wb from fun k hk => by rw [HWb.out _ (List.getElem_mem hk)]; omega)
          have HShN := Lib.hid (show Short 1000000000 Wn from fun k hk => by rw [HWn.out _ (List.getElem_mem hk)]; omega)
          clear hoo hob hxn e1 hle
          go_wp2_with fail
          go_loopw [10, 48] (fun ov iv wr => ∃ k : Nat, k ≤ Wb.length ∧ iv = .int .i64 k ∧ Hid (OwnII wr w1.heap.size ov (OT ++ lfAdd Wb Wn cn k)) ∧ Hid (RowsX wr Ab Wb ov.ownBlock) ∧ Hid (RowsX wr A' Wn ov.ownBlock) ∧ Hid (Below w1.heap.size w1 wr)) (fun _ i _ => Wb.length - (intOf i).toNat)
          case atStart => exact ⟨0, by omega, rfl, Lib.hid (by have h9 := HO3.out; simpa [lfAdd] using h9), HXb2, HXn, HB2⟩
          case round =>
            clear HXb2 HO3 HXn
            obtain ⟨k, hk, rfl, HOk, HXb3, HXn3, HBk⟩ := hrel
            obtain ⟨wk, rfl⟩ : ∃ wk, wk = wr := ⟨wr, rfl⟩
            obtain ⟨Ak, kk, rfl, _⟩ := HOk.out.rows
            by_cases hkl : k < Wb.length
            · obtain ⟨b, off, r, ro, rc, rfl, q1, q2, q3, q4, q5, q6⟩ := HXb3.out k hkl
              have HAS := Lib.hid (lfAdd_succ Wb Wn cn k hkl)
              have hbl2 := HWb.out _ (List.getElem_mem hkl)
              have hal := lfAdd_len Wb Wn cn k (by omega)
              have hal2 : k * cn ≤ 200 * 6 := Nat.mul_le_mul (by omega) hcn6
              have d1 := D1.out _ HBk.out
              have hNk : w.heap.size < wk.heap.size := by have := HBk.out.size; omega
              obtain ⟨row, hrow⟩ : ∃ row, row = Wb[k] := ⟨_, rfl⟩
              rw [← hrow] at q3 q6 HAS hbl2
              have hrr : ∃ r', r' = lfRow Wb Wn row 0 := ⟨_, rfl⟩
              rw [hbl2] at q3
              have HRl := Lib.hid hbl2
              have HAl := Lib.hid (show (OT ++ lfAdd Wb Wn cn k).length ≤ 7200 by rw [List.length_append]; have := HOL.out; omega)
              clear hrow hbl2 hal hal2 hrr
              generalize hac : OT ++ lfAdd Wb Wn cn k = AC at *
              have HAC := Lib.hid hac
              have HRw := Lib.hid (show RowsX wk (some ⟨b, off, none⟩) [row] (Value.slice Ak AC.length kk).ownBlock ∨ True from .inr trivial)
              have Hq := Lib.hid (And.intro q4 (And.intro q5 q6))
              clear hac q4 q5 q6
              go_wp2_with fail
              go_loopw [10, 54] (fun ov iv wr => ∃ x : Nat, x ≤ cn ∧ iv = .int .i64 x ∧ Hid (OwnII wr w1.heap.size ov (AC ++ lfRow Wb Wn row x)) ∧ Hid (RowsX wr (some ⟨b, off, none⟩) Wb ov.ownBlock) ∧ Hid (RowsX wr A' Wn ov.ownBlock) ∧ Hid (r < wr.heap.size ∧ some r ≠ ov.ownBlock ∧ ∀ j (hj : j < row.length), wr.cell? ⟨r, ro + j, none⟩ = some (.int .i64 row[j])) ∧ Hid (Below w1.heap.size w1 wr)) (fun _ i _ => cn - (intOf i).toNat)
              case atStart => exact ⟨0, by omega, rfl, Lib.hid (by have h9 := HOk.out; simpa [lfRow] using h9), HXb3, HXn3, Hq, HBk⟩
              case round =>
                clear HOk HXb3 HXn3 Hq HRw q3
                obtain ⟨x, hx, rfl, HOx, HXb4, HXn4, Hq, HBx⟩ := hrel
                obtain ⟨wx, rfl⟩ : ∃ wx, wx = wr := ⟨wr, rfl⟩
                obtain ⟨Ax, kx, rfl, _⟩ := HOx.out.rows
                by_cases hxc : x < cn
                · have hrc := lfRow_len Wb Wn row x
                  have HRS := Lib.hid (lfRow_succ Wb Wn row x)
                  have HCl := Lib.hid (clone_c row r ro rc wx Hq.out.2.2 (by rw [HRl.out]; omega))
                  rw [HRl.out] at HCl
                  have hal : (AC ++ lfRow Wb Wn row x).length ≤ 8000 := by rw [List.length_append]; have := HAl.out; omega
                  have HAl2 := Lib.hid hal
                  have HW1 := Lib.hid (fun wq Aw kw (hB : Below wx.heap.size wx wq) (hw : Cells wq Aw (ints ((row ++ [(x : Int)]).drop 1))) => lfHas_c Wb ((row ++ [(x : Int)]).drop 1) (some ⟨b, off, none⟩) Aw kb kw wq (HXb4.out.below hB).rows hw (by omega) HShB.out (by simp [HRl.out]; omega))
                  have HW2 := Lib.hid (fun wq Aw kw (hB : Below wx.heap.size wx wq) (hw : Cells wq Aw (ints (row ++ [(x : Int)]))) => lfHas_c Wn (row ++ [(x : Int)]) A' Aw k' kw wq (HXn4.out.below hB).rows hw (by have := HLe.out; omega) HShN.out (by simp [HRl.out]; omega))
                  have hdl : ((row ++ [(x : Int)]).drop 1).length = m := by simp [HRl.out]
                  have hwl : (row ++ [(x : Int)]).length = m + 1 := by simp [HRl.out]
                  rw [hdl] at HW1
                  rw [hwl] at HW2
                  generalize memB Wb ((row ++ [(x : Int)]).drop 1) = p1 at *
                  generalize memB Wn (row ++ [(x : Int)]) = p2 at *
                  clear hrc hal
                  generalize hac2 : AC ++ lfRow Wb Wn row x = AX at *
                  have HAX := Lib.hid hac2
                  clear hac2 hdl hwl
                  go_wp2_with fail
                  refine HCl.out.mono ?_
                  rintro e w3 ⟨v3, rfl, hO3, hb3⟩
                  obtain ⟨A3, k3, rfl, _⟩ := hO3.shape
                  have hO3' : OwnI w3 wx.heap.size (.slice A3 m k3) row := by rw [← HRl.out]; exact hO3
                  have HO3 := Lib.hid hO3'
                  have Hb3 := Lib.hid hb3
                  rw [HRl.out]
                  clear hO3 hO3' hb3
                  go_wp2_with (at_builtin; refine Hold.of ?_)
                  refine Hold.to ?_
                  refine wpl_app_int rfl (.tmp 58) (.tmp 60) rfl wx.heap.size (.slice A3 m k3) row (x : Int) rfl (HO3.out.alloc _) w3.heap.size 0 rfl (cell_alloc_at _ _ _ _ _ rfl) (by rw [HRl.out]; omega) (le_al Hb3.out.size) (fun v4 w4 h1 h2 h3 => ?_)
                  have hb4 : Below wx.heap.size wx w4 := Below.grown (below_al Hb3.out) h2 (le_al Hb3.out.size) (fun q hq => (World.ownsRow.lt HO3.out q hq).1)
                  obtain ⟨A4, k4, rfl, hc4, _⟩ := h1.shape
                  have hl4 : (row ++ [(x : Int)]).length = m + 1 := by simp [HRl.out]
                  obtain ⟨g4, hg4, _, _, _, _⟩ := h1.at_ 0 (by simp)
                  subst hg4
                  have h1' : OwnI w4 wx.heap.size (.slice (some ⟨g4, 0, none⟩) (m + 1) k4) (row ++ [(x : Int)]) := by rw [← hl4]; exact h1
                  have HO4 := Lib.hid h1'
                  have hct : Cells w4 (some ⟨g4, 1, none⟩) (ints ((row ++ [(x : Int)]).drop 1)) := by
                    intro j hj
                    have hj' : j < ((row ++ [(x : Int)]).drop 1).length := by simpa [ints] using hj
                    have hj2 : j + 1 < (row ++ [(x : Int)]).length := by rw [List.length_drop] at hj'; omega
                    obtain ⟨g5, e5, _, _, c5, _⟩ := h1'.at_ (j + 1) hj2
                    injection e5 with e5; injection e5 with e5 _; subst e5
                    refine ⟨g4, 1, rfl, ?_⟩
                    rw [show 1 + j = j + 1 by omega, c5]
                    simp only [ints, List.getElem_map, List.getElem_drop, show 1 + j = j + 1 by omega]
                  have HCt := Lib.hid hct
                  have HCw := Lib.hid hc4
                  have HB4 := Lib.hid hb4
                  rw [hl4]
                  clear h1 h1' h2 h3 hct hc4 hb4 hl4
                  have hk4 : m + 1 ≤ k4 := by
                    have h9 := HO4.out
                    rcases h9.2 with ⟨e9, _⟩ | ⟨_, cap, _, e9, _, _, h9, _⟩
                    · cases e9
                    · injection e9 with _ e9a e9b; subst e9b; simpa [HRl.out] using h9
                  have hdm : (ints ((row ++ [(x : Int)]).drop 1)).length = m := by simp [ints, HRl.out]
                  go_wp2_with fail
                  all_goals
                    refine (HW1.out w4 _ _ HB4.out (by first | exact HCt.out | (intro j hj; omega))).mono ?_
                    first | subst h | clear h
                    clear hk4 hdm
                    rintro e w5 ⟨rfl, hb5⟩
                    have HB5 := Lib.hid (HB4.out.trans (hb5.mono HB4.out.size))
                    have HO5 := Lib.hid (HO4.out.below hb5)
                    have HCw5 := Lib.hid (HCw.out.below hb5)
                    clear hb5
                    cases p1
                    · have HRn := Lib.hid (show AC ++ lfRow Wb Wn row (x + 1) = AX by rw [HRS.out, if_neg (by simp), List.append_nil, HAX.out])
                      have HX1 := Lib.hid (HOx.out.below HB5.out)
                      have HX2 := Lib.hid (HXb4.out.below HB5.out)
                      have HX3 := Lib.hid (HXn4.out.below HB5.out)
                      have HX4 := Lib.hid (show r < w5.heap.size ∧ some r ≠ (Value.slice Ax AX.length kx).ownBlock ∧ ∀ j (hj : j < row.length), w5.cell? ⟨r, ro + j, none⟩ = some (.int .i64 row[j]) from ⟨Nat.lt_of_lt_of_le Hq.out.1 HB5.out.size, Hq.out.2.1, fun j hj => (HB5.out.cell (p := ⟨r, ro + j, none⟩) Hq.out.1).trans (Hq.out.2.2 j hj)⟩)
                      have HX5 := Lib.hid (HBx.out.trans (HB5.out.mono HBx.out.size))
                      go_wp2_with fail
                      go_roundw
                      case rel => exact ⟨x + 1, by omega, by go_num, Lib.hid (by rw [HRn.out]; exact HX1.out), HX2, HX3, HX4, HX5⟩
                      case measure => simp [intOf]; omega
                    · go_wp2_with fail
                      refine (HW2.out w5 _ _ HB5.out HCw5.out).mono ?_
                      rintro e w6 ⟨rfl, hb6⟩
                      have HB6 := Lib.hid (HB5.out.trans (hb6.mono HB5.out.size))
                      have HO6 := Lib.hid (HO5.out.below hb6)
                      clear hb6
                      cases p2
                      · have HRn := Lib.hid (show AC ++ lfRow Wb Wn row (x + 1) = AX ++ [row ++ [(x : Int)]] by rw [HRS.out, if_pos (by decide), ← List.append_assoc, HAX.out])
                        have HX4 := Lib.hid (show r < w6.heap.size ∧ some r ≠ (Value.slice Ax AX.length kx).ownBlock ∧ ∀ j (hj : j < row.length), w6.cell? ⟨r, ro + j, none⟩ = some (.int .i64 row[j]) from ⟨Nat.lt_of_lt_of_le Hq.out.1 HB6.out.size, Hq.out.2.1, fun j hj => (HB6.out.cell (p := ⟨r, ro + j, none⟩) Hq.out.1).trans (Hq.out.2.2 j hj)⟩)
                        have HX2 := Lib.hid (HXb4.out.below HB6.out)
                        have HX3 := Lib.hid (HXn4.out.below HB6.out)
                        have HX5 := Lib.hid (HBx.out.trans (HB6.out.mono HBx.out.size))
                        go_wp2_with (at_builtin; refine Hold.of ?_)
                        refine Hold.to ?_
                        refine wpl_app_rowH (W0 := wx) rfl (.tmp 74) (.tmp 76) rfl w1.heap.size (.slice Ax AX.length kx) AX _ (row ++ [(x : Int)]) rfl HOx.out (below_al HB6.out) (HO6.out.alloc _) w6.heap.size 0 rfl (cell_alloc_at _ _ _ _ _ rfl) (by have := HAl2.out; omega) HBx.out.size (fun v7 w7 y1 y2 y3 y4 => ?_)
                        have hb7 : Below w1.heap.size w1 w7 := Below.grown ((HX5.out).alloc HX5.out.size _) y2 (le_al HX5.out.size) y3
                        have ho2 : ∀ q, v7.ownBlock = some q → (Value.slice Ax AX.length kx).ownBlock = some q ∨ w6.heap.size + 1 ≤ q := fun q hq => by
                          rcases y4 with e | e
                          · left; rw [← e]; exact hq
                          · right; rw [e] at hq; injection hq with hq; simp at hq; omega
                        have hx2 := (HX2.out.below (below_al (Below.refl _ w6))).step y2 (fun q hq => by have := ho2 q hq; simpa using this)
                        have hx3 := (HX3.out.below (below_al (Below.refl _ w6))).step y2 (fun q hq => by have := ho2 q hq; simpa using this)
                        have hx4 : r < w7.heap.size ∧ some r ≠ v7.ownBlock ∧ ∀ j (hj : j < row.length), w7.cell? ⟨r, ro + j, none⟩ = some (.int .i64 row[j]) := by
                          have hs7 := y2.size
                          simp at hs7
                          refine ⟨by have := HX4.out.1; omega, fun e => ?_, fun j hj => ?_⟩
                          · rcases y4 with e2 | e2
                            · rw [e2] at e; exact HX4.out.2.1 e
                            · rw [e2] at e; injection e with e; simp at e; have := HX4.out.1; omega
                          · exact (grown_cell (p := ⟨r, ro + j, none⟩) y2 (by have := HX4.out.1; simp; omega) HX4.out.2.1).trans (((below_al (Below.refl _ w6)).cell (p := ⟨r, ro + j, none⟩) HX4.out.1).trans (HX4.out.2.2 j hj))
                        obtain ⟨A7, k7, rfl, _⟩ := y1.rows
                        have hAl : (AX ++ [row ++ [(x : Int)]]).length = AX.length + 1 := by simp
                        rw [hAl] at y1 hx2 hx3 hx4
                        clear hAl
                        have HF := Lib.hid (And.intro y1 (And.intro hx2 (And.intro hx3 (And.intro hx4 hb7))))
                        clear y1 y2 y3 y4 hx2 hx3 hx4 hb7 ho2
                        go_wp2_with fail
                        go_roundw
                        case rel => exact ⟨x + 1, by omega, by go_num, Lib.hid (by rw [HRn.out]; exact HF.out.1), Lib.hid HF.out.2.1, Lib.hid HF.out.2.2.1, Lib.hid HF.out.2.2.2.1, Lib.hid HF.out.2.2.2.2⟩
                        case measure => simp [intOf]; omega
                      · have HRn := Lib.hid (show AC ++ lfRow Wb Wn row (x + 1) = AX by rw [HRS.out, if_neg (by decide), List.append_nil, HAX.out])
                        have HX1 := Lib.hid (HOx.out.below HB6.out)
                        have HX2 := Lib.hid (HXb4.out.below HB6.out)
                        have HX3 := Lib.hid (HXn4.out.below HB6.out)
                        have HX4 := Lib.hid (show r < w6.heap.size ∧ some r ≠ (Value.slice Ax AX.length kx).ownBlock ∧ ∀ j (hj : j < row.length), w6.cell? ⟨r, ro + j, none⟩ = some (.int .i64 row[j]) from ⟨Nat.lt_of_lt_of_le Hq.out.1 HB6.out.size, Hq.out.2.1, fun j hj => (HB6.out.cell (p := ⟨r, ro + j, none⟩) Hq.out.1).trans (Hq.out.2.2 j hj)⟩)
                        have HX5 := Lib.hid (HBx.out.trans (HB6.out.mono HBx.out.size))
                        go_wp2_with fail
                        go_roundw
                        case rel => exact ⟨x + 1, by omega, by go_num, Lib.hid (by rw [HRn.out]; exact HX1.out), HX2, HX3, HX4, HX5⟩
                        case measure => simp [intOf]; omega
                · obtain rfl : x = cn := by omega
                  have HOx2 := Lib.hid (show OwnII wx w1.heap.size (.slice Ax (AC ++ lfRow Wb Wn row x).length kx) (OT ++ lfAdd Wb Wn x (k + 1)) by rw [HAS.out, ← List.append_assoc, HAC.out]; exact HOx.out)
                  go_wp2_with fail
                  go_roundw
                  case rel => exact ⟨k + 1, by omega, by go_num, HOx2, HXb4, HXn4, HBx⟩
                  case measure => simp [intOf]; omega
            · obtain rfl : k = Wb.length := by omega
              have HO5 := Lib.hid (show OwnII wk w1.heap.size (.slice Ak (OT ++ lfAdd Wb Wn cn Wb.length).length kk) (lfTo S cols cn (m + 1)) by rw [HSu.out]; exact HOk.out)
              have HLm2 := Lib.hid (show ∀ j, j < m + 1 → (trWords S cols cn (j + 1)).length ≤ 200 from fun j hj => by
                by_cases e : j = m
                · subst e; rw [HWN.out]; exact HLe.out
                · exact HLm.out j (by omega))
              go_wp2_with fail
              go_roundw
              case rel => exact ⟨m + 1, by omega, by go_num, HO5, ⟨A', k', by rw [HWN.out], Lib.hid (by rw [HWN.out]; exact HXn3.out)⟩, HBk, HLm2⟩
              case measure => simp [intOf]; omega
        · have e1 : decide (Wn.length ≤ 200) = false := decide_eq_false hle
          rw [e1]
          have HBad := Lib.hid (HBd.out hle)
          replace hle := Lib.hid hle
          clear e1
          go_wp2
          go_ret2
          refine ⟨_, by rw [HV2.out, if_pos HBad.out]; rfl, ?_, Hw1.out.trans (HB2.out.mono Hw1.out.size)⟩
          rw [HV3.out, if_neg (by rw [HV2.out, if_pos HBad.out]; decide)]
          exact OwnII.nil _ _
      · obtain rfl : m = nn := by omega
        have HGood := Lib.hid (lfBad_false HLm.out)
        have HF := Lib.hid (HOm.out.weaken (B' := w.heap.size) Hw1.out.size)
        go_wp2
        go_ret2
        refine ⟨_, by rw [HV2.out, if_neg (by rw [HGood.out]; decide)]; rfl, ?_, Hw1.out.trans (HBm.out.mono Hw1.out.size)⟩
        rw [HV3.out, if_pos (by rw [HV2.out, if_neg (by rw [HGood.out]; decide)])]
        exact HF.out

end Go.Proofs.YtnoehaphbpkpjaaGreat
