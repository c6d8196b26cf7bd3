/- Contracts and lemmas for the statements of this seat, written for this claim; each theorem states its own conditions. -/
import Derived.Test.YtkgnejhflnekaaaFrZ1
import Derived.Test.YtkgnejhflnekaaaFrSh
import Derived.Test.YtkgnejhflnekaaaFrRx
set_option linter.unusedVariables false
set_option linter.unusedSimpArgs false
namespace Go.Proofs.Ytkgnejhflnekaaa
open Go.RowKit
/-! plain laws of what is grown by rules -/
def rAt (rows : List (List Int)) (y x : Nat) : Int := (rows.getD y []).getD x 0
def FillOk (ts : List T4) (rows : List (List Int)) : Prop :=
  ∀ y, y < rows.length → ∀ x, x < (rows.getD y []).length → (0 < x → meetE ts (rAt rows y (x - 1)) (rAt rows y x) = true) ∧ (0 < y → meetS ts (rAt rows (y - 1) x) (rAt rows y x) = true)
noncomputable def fillB (ts : List T4) (rows : List (List Int)) : Bool := open Classical in decide (FillOk ts rows)
theorem fillB_yes {ts : List T4} {rows : List (List Int)} (h : FillOk ts rows) : fillB ts rows = true := by simp [fillB, h]
theorem fillB_no {ts : List T4} {rows : List (List Int)} (h : ¬ FillOk ts rows) : fillB ts rows = false := by simp [fillB, h]
theorem fillB_ok {ts : List T4} {rows : List (List Int)} (h : fillB ts rows = true) : FillOk ts rows := by simpa [fillB] using h
noncomputable def fiC (c : Int) (ts : List T4) (rows : List (List Int)) : Int := codeB (isSetB c ts) (rowsB ts.length rows)
noncomputable def fiV (c : Int) (ts : List T4) (rows : List (List Int)) : Bool := isSetB c ts && rowsB ts.length rows && fillB ts rows
def kbAt (L : List (List Int)) (i : Int) (m : Nat) : Int := (L.getD i.toNat []).getD m 0
theorem gTop_get {N : Nat} {L : List (List Int)} (hB : Blocks N L) : ∀ {row : List Int}, (∀ x ∈ row, 0 ≤ x ∧ x < (N : Int)) → ∀ q, q < row.length →
    (gTop L row).getD (2 * q) 0 = kbAt L (row.getD q 0) 0 ∧ (gTop L row).getD (2 * q + 1) 0 = kbAt L (row.getD q 0) 1 ∧ (gBot L row).getD (2 * q) 0 = kbAt L (row.getD q 0) 2 ∧ (gBot L row).getD (2 * q + 1) 0 = kbAt L (row.getD q 0) 3
  | [], _, q, h => by simp at h
  | x :: xs, hr, q, h => by
    obtain ⟨x0, x1⟩ := hr x (by simp)
    have hm : x.toNat < L.length := by rw [hB.1]; omega
    obtain ⟨a, b, c, d, e⟩ := four_of (blocks_row hB hm).1
    have e3 : L.getD x.toNat [] = [a, b, c, d] := by simp [hm, e]
    have e1 : gTop L (x :: xs) = a :: b :: gTop L xs := by
      show (L.getD x.toNat []).take 2 ++ gTop L xs = _
      rw [e3]; rfl
    have e2 : gBot L (x :: xs) = c :: d :: gBot L xs := by
      show (L.getD x.toNat []).drop 2 ++ gBot L xs = _
      rw [e3]; rfl
    cases q with
    | zero => rw [e1, e2]; unfold kbAt; simp only [List.getD_cons_zero]; rw [e3]; simp
    | succ q =>
      obtain ⟨h1, h2, h3, h4⟩ := gTop_get hB (row := xs) (fun y hy => hr y (by simp [hy])) q (by simpa using h)
      rw [e1, e2, show 2 * (q + 1) = 2 * q + 1 + 1 by omega]
      simp only [List.getD_cons_succ]
      exact ⟨h1, h2, h3, h4⟩
theorem grownL_get (L : List (List Int)) : ∀ (rows : List (List Int)) (y : Nat), y < rows.length → (grownL L rows).getD (2 * y) [] = gTop L (rows.getD y []) ∧ (grownL L rows).getD (2 * y + 1) [] = gBot L (rows.getD y [])
  | [], y, h => by simp at h
  | r :: rs, y, h => by
    have e : grownL L (r :: rs) = gTop L r :: gBot L r :: grownL L rs := rfl
    cases y with
    | zero => rw [e]; simp
    | succ y =>
      have := grownL_get L rs y (by simpa using h)
      rw [e, show 2 * (y + 1) = 2 * y + 1 + 1 by omega]
      simp only [List.getD_cons_succ]
      exact this
theorem row_get {rows : List (List Int)} {y : Nat} (hy : y < rows.length) : rows.getD y [] = rows[y] := by simp [hy]
theorem rAt_get {rows : List (List Int)} {y x : Nat} (hy : y < rows.length) (hx : x < rows[y].length) : rAt rows y x = rows[y][x] := by simp [rAt, hy, hx]
theorem table_row {rows : List (List Int)} (h : TableOk rows) {y : Nat} (hy : y < rows.length) : (rows.getD y []).length = len0 rows := by rw [row_get hy]; exact (h.2 y hy).1
theorem nums_row {N : Nat} {rows : List (List Int)} (hI : NumsIn N rows) {y : Nat} (hy : y < rows.length) : ∀ x ∈ rows.getD y [], 0 ≤ x ∧ x < (N : Int) := by
  rw [row_get hy]
  intro x hx
  obtain ⟨j, hj, rfl⟩ := List.getElem_of_mem hx
  exact hI y hy j hj
theorem nums_rAt {N : Nat} {rows : List (List Int)} (hI : NumsIn N rows) {y x : Nat} (hy : y < rows.length) (hx : x < (rows.getD y []).length) : 0 ≤ rAt rows y x ∧ rAt rows y x < (N : Int) := by
  rw [row_get hy] at hx
  rw [rAt_get hy hx]
  exact hI y hy x hx
theorem rAt_grown {N : Nat} {L rows : List (List Int)} (hB : Blocks N L) (hI : NumsIn N rows) {y q : Nat} (hy : y < rows.length) (hq : q < (rows.getD y []).length) :
    rAt (grownL L rows) (2 * y) (2 * q) = kbAt L (rAt rows y q) 0 ∧ rAt (grownL L rows) (2 * y) (2 * q + 1) = kbAt L (rAt rows y q) 1 ∧ rAt (grownL L rows) (2 * y + 1) (2 * q) = kbAt L (rAt rows y q) 2 ∧ rAt (grownL L rows) (2 * y + 1) (2 * q + 1) = kbAt L (rAt rows y q) 3 := by
  obtain ⟨g1, g2⟩ := grownL_get L rows y hy
  unfold rAt
  rw [g1, g2]
  exact gTop_get hB (nums_row hI hy) q hq
theorem grown_row_len {N : Nat} {L rows : List (List Int)} (hB : Blocks N L) (hI : NumsIn N rows) {y : Nat} (hy : y < rows.length) : ((grownL L rows).getD (2 * y) []).length = 2 * (rows.getD y []).length ∧ ((grownL L rows).getD (2 * y + 1) []).length = 2 * (rows.getD y []).length := by
  obtain ⟨g1, g2⟩ := grownL_get L rows y hy
  rw [g1, g2]
  exact gTop_len hB (fun j hj => nums_row hI hy _ (List.getElem_mem hj))
theorem grown_len_all {N : Nat} {L rows : List (List Int)} (hB : Blocks N L) (hT : TableOk rows) (hI : NumsIn N rows) {k : Nat} (hk : k < (grownL L rows).length) : ((grownL L rows).getD k []).length = 2 * len0 rows := by
  rw [grownL_len] at hk
  have hp : k = 2 * (k / 2) ∨ k = 2 * (k / 2) + 1 := by omega
  obtain ⟨h1, h2⟩ := grown_row_len hB hI (show k / 2 < rows.length by omega)
  rw [table_row hT (by omega)] at h1 h2
  rcases hp with h | h
  · rw [h]; exact h1
  · rw [h]; exact h2
theorem grown_table {N : Nat} {L rows : List (List Int)} (hB : Blocks N L) (hT : TableOk rows) (hI : NumsIn N rows) (hb : grBig rows = false) : TableOk (grownL L rows) ∧ len0 (grownL L rows) = 2 * len0 rows := by
  have h1 := hT.1
  have h2 := hT.2 0 (by omega)
  have hg : 2 * rows.length ≤ 8 ∧ 2 * len0 rows ≤ 8 := by simpa [grBig] using hb
  have hl : len0 (grownL L rows) = 2 * len0 rows := grown_len_all hB hT hI (k := 0) (by rw [grownL_len]; omega)
  refine ⟨⟨by rw [grownL_len]; omega, fun k hk => ?_⟩, hl⟩
  have h3 := grown_len_all hB hT hI hk
  rw [row_get hk] at h3
  rw [hl, h3]
  omega
theorem rule_fill {ts : List T4} {L : List (List Int)} (hr : ruleB ts L = true) {i : Nat} (hi : i < L.length) :
    meetE ts (kbAt L i 0) (kbAt L i 1) = true ∧ meetE ts (kbAt L i 2) (kbAt L i 3) = true ∧ meetS ts (kbAt L i 0) (kbAt L i 2) = true ∧ meetS ts (kbAt L i 1) (kbAt L i 3) = true := by
  unfold ruleB at hr
  rw [List.all_eq_true] at hr
  have h := hr i (List.mem_range.2 hi)
  unfold ruleAt fill4 at h
  simp only [Bool.and_eq_true] at h
  obtain ⟨⟨⟨⟨h1, h2⟩, h3⟩, h4⟩, -⟩ := h
  exact ⟨h1, h2, h3, h4⟩
theorem rule_pair {ts : List T4} {L : List (List Int)} (hr : ruleB ts L = true) {i k : Nat} (hi : i < L.length) (hk : k < L.length) :
    (meetE ts i k = true → meetE ts (kbAt L i 1) (kbAt L k 0) = true ∧ meetE ts (kbAt L i 3) (kbAt L k 2) = true) ∧ (meetS ts i k = true → meetS ts (kbAt L i 2) (kbAt L k 0) = true ∧ meetS ts (kbAt L i 3) (kbAt L k 1) = true) := by
  unfold ruleB at hr
  rw [List.all_eq_true] at hr
  have h := hr i (List.mem_range.2 hi)
  unfold ruleAt at h
  rw [Bool.and_eq_true, List.all_eq_true] at h
  have h2 := h.2 k (List.mem_range.2 hk)
  unfold pairOk at h2
  rw [Bool.and_eq_true] at h2
  obtain ⟨h3, h4⟩ := h2
  constructor
  · intro e
    rw [e] at h3
    simpa [kbAt] using h3
  · intro e
    rw [e] at h4
    simpa [kbAt] using h4
theorem fill_grown {N : Nat} {ts : List T4} {L rows : List (List Int)} (hB : Blocks N L) (hT : TableOk rows) (hI : NumsIn N rows) (hr : ruleB ts L = true) (hf : FillOk ts rows) : FillOk ts (grownL L rows) := by
  intro Y hY X hX
  rw [grown_len_all hB hT hI hY] at hX
  rw [grownL_len] at hY
  have hN := hB.1
  have ok : ∀ y x, y < rows.length → x < len0 rows → ∃ i : Nat, rAt rows y x = (i : Int) ∧ i < L.length ∧ x < (rows.getD y []).length := fun y x hy hx => by
    have hx' : x < (rows.getD y []).length := by rw [table_row hT hy]; exact hx
    obtain ⟨a, b⟩ := nums_rAt hI hy hx'
    exact ⟨(rAt rows y x).toNat, by omega, by omega, hx'⟩
  obtain ⟨y, hy⟩ : ∃ y, y = Y / 2 := ⟨_, rfl⟩
  obtain ⟨q, hq⟩ : ∃ q, q = X / 2 := ⟨_, rfl⟩
  have hyl : y < rows.length := by omega
  have hql : q < len0 rows := by omega
  obtain ⟨i, hi, hiL, hxr⟩ := ok y q hyl hql
  obtain ⟨g1, g2, g3, g4⟩ := rAt_grown hB hI hyl hxr
  rw [hi] at g1 g2 g3 g4
  obtain ⟨f1, f2, f3, f4⟩ := rule_fill hr hiL
  have hfy := hf y hyl q hxr
  rw [hi] at hfy
  have left : 0 < q → meetE ts (rAt (grownL L rows) (2 * y) (2 * q - 1)) (kbAt L i 0) = true ∧ meetE ts (rAt (grownL L rows) (2 * y + 1) (2 * q - 1)) (kbAt L i 2) = true := fun h => by
    obtain ⟨j, hj, hjL, hxj⟩ := ok y (q - 1) hyl (by omega)
    obtain ⟨k1, k2, k3, k4⟩ := rAt_grown hB hI hyl hxj
    have hm := hfy.1 h
    rw [hj] at hm k1 k2 k3 k4
    rw [show 2 * q - 1 = 2 * (q - 1) + 1 by omega, k2, k4]
    exact (rule_pair hr hjL hiL).1 hm
  have up : 0 < y → meetS ts (rAt (grownL L rows) (2 * y - 1) (2 * q)) (kbAt L i 0) = true ∧ meetS ts (rAt (grownL L rows) (2 * y - 1) (2 * q + 1)) (kbAt L i 1) = true := fun h => by
    obtain ⟨j, hj, hjL, hxj⟩ := ok (y - 1) q (by omega) hql
    obtain ⟨k1, k2, k3, k4⟩ := rAt_grown hB hI (show y - 1 < rows.length by omega) hxj
    have hm := hfy.2 h
    rw [hj] at hm k1 k2 k3 k4
    rw [show 2 * y - 1 = 2 * (y - 1) + 1 by omega, k3, k4]
    exact (rule_pair hr hjL hiL).2 hm
  have pY : Y = 2 * y ∨ Y = 2 * y + 1 := by omega
  have pX : X = 2 * q ∨ X = 2 * q + 1 := by omega
  rcases pY with rfl | rfl <;> rcases pX with rfl | rfl
  · exact ⟨fun h => by rw [g1]; exact (left (by omega)).1, fun h => by rw [g1]; exact (up (by omega)).1⟩
  · exact ⟨fun h => by rw [show 2 * q + 1 - 1 = 2 * q by omega, g1, g2]; exact f1, fun h => by rw [g2]; exact (up (by omega)).2⟩
  · exact ⟨fun h => by rw [g3]; exact (left (by omega)).2, fun h => by rw [show 2 * y + 1 - 1 = 2 * y by omega, g1, g3]; exact f3⟩
  · exact ⟨fun h => by rw [show 2 * q + 1 - 1 = 2 * q by omega, g3, g4]; exact f2, fun h => by rw [show 2 * y + 1 - 1 = 2 * y by omega, g2, g4]; exact f4⟩
/-! shrinking what was grown -/
theorem four_at {L : List (List Int)} {N i : Nat} (hB : Blocks N L) (hi : i < L.length) : L[i] = [kbAt L i 0, kbAt L i 1, kbAt L i 2, kbAt L i 3] := by
  obtain ⟨a, b, c, d, e⟩ := four_of (blocks_row hB hi).1
  simp [kbAt, hi, e]
theorem blkAt_grown {N : Nat} {L rows : List (List Int)} (hB : Blocks N L) (hI : NumsIn N rows) {y q i : Nat} (hy : y < rows.length) (hq : q < (rows.getD y []).length) (hi : rAt rows y q = (i : Int)) (hiL : i < L.length) : blkAt (grownL L rows) (2 * y) (2 * q) = L[i] := by
  obtain ⟨g1, g2, g3, g4⟩ := rAt_grown hB hI hy hq
  rw [hi] at g1 g2 g3 g4
  rw [four_at hB hiL, ← g1, ← g2, ← g3, ← g4]
  rfl
theorem idx_least {L : List (List Int)} {i : Nat} (hi : i < L.length) : ∃ m : Nat, idxR (fun r => eqI r L[i]) L = (m : Int) ∧ ∃ hm : m < L.length, L[m] = L[i] := by
  unfold idxR
  cases e : L.findIdx? (fun r => eqI r L[i]) with
  | none =>
    rw [List.findIdx?_eq_none_iff] at e
    have := e _ (List.getElem_mem hi)
    rw [eqI_refl] at this; cases this
  | some m =>
    obtain ⟨hm, h1, h2⟩ := List.findIdx?_eq_some_iff_getElem.1 e
    exact ⟨m, rfl, hm, by simpa [eqI] using h1⟩
theorem idx_one {L : List (List Int)} {i : Nat} (hi : i < L.length) (h1 : one1 L = true) : idxR (fun r => eqI r L[i]) L = (i : Int) := by
  have h := one1At_idx hi
  unfold one1 at h1
  rw [List.all_eq_true] at h1
  rw [h1 i (List.mem_range.2 hi)] at h
  simpa using h
theorem shIdx_grown {N : Nat} {L rows : List (List Int)} (hB : Blocks N L) (hT : TableOk rows) (hI : NumsIn N rows) {y q : Nat} (hy : y < rows.length) (hq : q < len0 rows) :
    ∃ m i : Nat, rAt rows y q = (i : Int) ∧ shIdx L (grownL L rows) (2 * y) (2 * q) = (m : Int) ∧ (∃ hm : m < L.length, ∃ hi : i < L.length, L[m] = L[i]) ∧ (one1 L = true → m = i) := by
  have hx : q < (rows.getD y []).length := by rw [table_row hT hy]; exact hq
  obtain ⟨a, b⟩ := nums_rAt hI hy hx
  have hN := hB.1
  obtain ⟨i, hi⟩ : ∃ i : Nat, rAt rows y q = (i : Int) := ⟨(rAt rows y q).toNat, by omega⟩
  have hiL : i < L.length := by omega
  obtain ⟨m, e, hm, he⟩ := idx_least hiL
  have hs : shIdx L (grownL L rows) (2 * y) (2 * q) = idxR (fun r => eqI r L[i]) L := by unfold shIdx; rw [blkAt_grown hB hI hy hx hi hiL]
  refine ⟨m, i, hi, hs.trans e, ⟨hm, hiL, he⟩, fun h1 => ?_⟩
  have := idx_one hiL h1
  omega
theorem shRows_get {L rows : List (List Int)} {h k y q : Nat} (hy : y < h) (hq : q < k) : rAt (shRows L rows h k) y q = shIdx L rows (2 * y) (2 * q) := by
  simp [rAt, shRows, shRow, hy, hq]
theorem shRows_row {L rows : List (List Int)} {h k y : Nat} (hy : y < h) : ((shRows L rows h k).getD y []).length = k := by
  simp [shRows, shRow, hy]
theorem rows_ext {a b : List (List Int)} (h1 : a.length = b.length) (h2 : ∀ y, y < a.length → (a.getD y []).length = (b.getD y []).length) (h3 : ∀ y, y < a.length → ∀ x, x < (a.getD y []).length → rAt a y x = rAt b y x) : a = b := by
  refine List.ext_getElem h1 fun y hy hy' => ?_
  have e2 := h2 y hy
  have e3 := h3 y hy
  rw [row_get hy] at e2 e3
  rw [row_get hy'] at e2
  refine List.ext_getElem e2 fun x hx hx' => ?_
  have := e3 x hx
  rw [rAt_get hy hx, rAt_get hy' hx'] at this
  exact this
theorem grownL_congr {L a b : List (List Int)} (h1 : a.length = b.length) (h2 : ∀ y, y < a.length → (a.getD y []).length = (b.getD y []).length) (h3 : ∀ y, y < a.length → ∀ x, x < (a.getD y []).length → L.getD (rAt a y x).toNat [] = L.getD (rAt b y x).toNat []) : grownL L a = grownL L b := by
  have key : a.map (fun r => r.map fun i : Int => L.getD i.toNat []) = b.map (fun r => r.map fun i : Int => L.getD i.toNat []) := by
    refine List.ext_getElem (by simp [h1]) fun y hy hy' => ?_
    rw [List.length_map] at hy hy'
    rw [List.getElem_map, List.getElem_map]
    have e2 := h2 y hy
    have e3 := h3 y hy
    rw [row_get hy] at e2 e3
    rw [row_get hy'] at e2
    refine List.ext_getElem (by simp [e2]) fun x hx hx' => ?_
    rw [List.length_map] at hx hx'
    have := e3 x hx
    rw [rAt_get hy hx, rAt_get hy' hx'] at this
    simpa using this
  have hg : ∀ l : List (List Int), grownL L l = (l.map (fun r => r.map fun i : Int => L.getD i.toNat [])).flatMap fun r => [r.flatMap (·.take 2), r.flatMap (·.drop 2)] := fun l => by
    unfold grownL gTop gBot
    rw [List.flatMap_map]
    congr 1
    funext r
    simp [List.flatMap_map]
  rw [hg, hg, key]
/-! what the law of the rules asks of the values -/
theorem rules_facts {c : Int} {ts : List T4} {L rows : List (List Int)} (h : grC c ts L rows = 0) :
    codeB (isSetB c ts) (areBlocksB ts.length L) = 0 ∧ fiC c ts rows = 0 ∧ fiC c ts (grV c ts L rows) = 0 ∧ shC c ts L (grV c ts L rows) = 0 ∧
    (ruleV c ts L = true → fiV c ts rows = true → fiV c ts (grV c ts L rows) = true) ∧ (oneV c ts L = true → shV c ts L (grV c ts L rows) = rows) ∧ (grV c ts L rows).length = 2 * rows.length ∧
    grC c ts L (shV c ts L (grV c ts L rows)) = 0 ∧ grV c ts L (shV c ts L (grV c ts L rows)) = grV c ts L rows := by
  have hb0 : grBase c ts L rows = 0 := by
    unfold grC at h
    split at h
    · assumption
    · exact h
  have hbig : grBig rows = false := by
    unfold grC at h
    rw [if_pos hb0] at h
    cases hq : grBig rows
    · rfl
    · rw [hq] at h; simp at h
  obtain ⟨h1, h2⟩ := codeB_zer hb0
  rw [Bool.and_eq_true] at h2
  obtain ⟨h3, h4⟩ := h2
  have hB := areBlocksB_iff h3
  obtain ⟨hT, hI⟩ := rowsB_ok h4
  have hv : grV c ts L rows = grownL L rows := by unfold grV; rw [if_pos ⟨hb0, hbig⟩]
  obtain ⟨hT2, hl2⟩ := grown_table hB hT hI hbig
  have hI2 := grownL_nums hB hI
  have h5 : rowsB ts.length (grownL L rows) = true := rowsB_yes hT2 hI2
  have hgl := grownL_len L rows
  have hbase2 : grBase c ts L (grownL L rows) = 0 := by unfold grBase; rw [h1, h3, h5]; rfl
  have hodd : shOdd (grownL L rows) = false := by unfold shOdd; rw [hgl, hl2]; simp <;> omega
  have hh : (grownL L rows).length / 2 = rows.length := by omega
  have hk : len0 (grownL L rows) / 2 = len0 rows := by omega
  have hall : ShAll L (grownL L rows) ((grownL L rows).length / 2) (len0 (grownL L rows) / 2) := by
    rw [hh, hk]
    intro y hy q hq
    obtain ⟨m, i, -, e, -⟩ := shIdx_grown hB hT hI hy hq
    rw [e]; omega
  obtain ⟨hs1, hs2⟩ := sh_all hbase2 ⟨hodd, hall⟩
  rw [hh, hk] at hs2
  have hrow : ∀ y, y < rows.length → ((shRows L (grownL L rows) rows.length (len0 rows)).getD y []).length = (rows.getD y []).length := fun y hy => by rw [shRows_row hy, table_row hT hy]
  have hTb : TableOk (shRows L (grownL L rows) rows.length (len0 rows)) := by
    have hT1 := hT.1
    have h0 := hT.2 0 (by omega)
    have hl0 : len0 (shRows L (grownL L rows) rows.length (len0 rows)) = len0 rows := shRows_row (y := 0) (by omega)
    refine ⟨by rw [shRows_len]; exact hT1, fun k hk => ?_⟩
    rw [hl0]
    rw [shRows_len] at hk
    have e := shRows_row (L := L) (rows := grownL L rows) (k := len0 rows) hk
    rw [row_get (by rw [shRows_len]; exact hk)] at e
    rw [e]; omega
  have hIb : NumsIn ts.length (shRows L (grownL L rows) rows.length (len0 rows)) := by
    intro y hy q hq
    have hy' : y < rows.length := by rwa [shRows_len] at hy
    have hq' : q < len0 rows := by
      have e := shRows_row (L := L) (rows := grownL L rows) (k := len0 rows) hy'
      rw [row_get hy] at e
      omega
    rw [← rAt_get hy hq, shRows_get hy' hq']
    obtain ⟨m, i, -, e, ⟨hm, -⟩, -⟩ := shIdx_grown hB hT hI hy' hq'
    have := hB.1
    rw [e]; omega
  have hbase3 : grBase c ts L (shRows L (grownL L rows) rows.length (len0 rows)) = 0 := by unfold grBase; rw [h1, h3, rowsB_yes hTb hIb]; rfl
  have hl0 : len0 (shRows L (grownL L rows) rows.length (len0 rows)) = len0 rows := by have := hT.1; exact shRows_row (y := 0) (by omega)
  have hbig3 : grBig (shRows L (grownL L rows) rows.length (len0 rows)) = false := by
    unfold grBig at hbig ⊢
    rw [shRows_len, hl0]; exact hbig
  have hcong : grownL L (shRows L (grownL L rows) rows.length (len0 rows)) = grownL L rows := by
    refine grownL_congr (shRows_len _ _ _ _) (fun y hy => hrow y (by rwa [shRows_len] at hy)) fun y hy x hx => ?_
    rw [shRows_len] at hy
    rw [shRows_row hy] at hx
    obtain ⟨m, i, e1, e2, ⟨hm, hi, e3⟩, -⟩ := shIdx_grown hB hT hI hy hx
    rw [shRows_get hy hx, e1, e2]
    simp [hm, hi, e3]
  rw [hv, hs2]
  refine ⟨by rw [h1, h3]; rfl, by unfold fiC; rw [h1, h4]; rfl, by unfold fiC; rw [h1, h5]; rfl, hs1, fun hr hf => ?_, fun ho => ?_, hgl, ?_, ?_⟩
  · unfold ruleV at hr
    rw [Bool.and_eq_true] at hr
    unfold fiV at hf ⊢
    rw [Bool.and_eq_true] at hf
    rw [h1, h5, fillB_yes (fill_grown hB hT hI hr.2 (fillB_ok hf.2))]
    rfl
  · unfold oneV at ho
    rw [Bool.and_eq_true] at ho
    refine rows_ext (shRows_len _ _ _ _) (fun y hy => hrow y (by rwa [shRows_len] at hy)) fun y hy x hx => ?_
    rw [shRows_len] at hy
    rw [shRows_row hy] at hx
    obtain ⟨m, i, e1, e2, -, e3⟩ := shIdx_grown hB hT hI hy hx
    rw [shRows_get hy hx, e1, e2, e3 ho.2]
  · unfold grC; rw [if_pos hbase3, hbig3]; rfl
  · unfold grV; rw [if_pos ⟨hbase3, hbig3⟩, hcong]

end Go.Proofs.Ytkgnejhflnekaaa
