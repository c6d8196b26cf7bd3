/- Contracts and lemmas for the statements of this seat, written for this claim; each theorem states its own conditions. -/
import Derived.Test.YtkgnejhflnekaaaGreatMuMk
import Derived.Test.YtkgnejhflnekaaaGreatMuB
set_option linter.unusedVariables false
set_option linter.unusedSimpArgs false
namespace Go.Proofs.YtkgnejhflnekaaaGreat
open Go.RowKit
set_option maxRecDepth 100000 in
set_option maxHeartbeats 1000000 in
theorem stepsCode1_c (c : Int) (A : Option Addr) (n cx : Nat) (i k most : Int) (b1 b2 b3 b4 : Nat) (w : World) (hl : n ≤ 1000000000)
    (f0 : w.cell? ⟨b1, 0, none⟩ = some (.int .i64 c)) (f1 : w.cell? ⟨b1, 1, none⟩ = some (.slice A n cx)) (f2 : w.cell? ⟨b2, 0, none⟩ = some (.int .i64 i)) (f3 : w.cell? ⟨b3, 0, none⟩ = some (.int .i64 k)) (f4 : w.cell? ⟨b4, 0, none⟩ = some (.int .i64 most)) :
    Calls Tryz.prog 177 #[.pointer (some ⟨b1, 0, none⟩), .pointer (some ⟨b2, 0, none⟩), .pointer (some ⟨b3, 0, none⟩), .pointer (some ⟨b4, 0, none⟩)] w fun e w' => e = .returned (.bool (inR 0 ((n : Int) - 1) i && inR 0 most k)) ∧ Below w.heap.size w w' := by
  have HR := Lib.hid (isNumber_c c A n cx i w hl)
  have HF := Lib.hid (fun w => within_c k 0 most w)
  have G3 := Lib.hid (keepC f3)
  have G4 := Lib.hid (keepC f4)
  generalize inR 0 ((n : Int) - 1) i = r at *
  generalize inR 0 most k = s at *
  cases r
  · go_enter Tryz.func177, Tryz.ntmps177
    go_wp2_with fail
    refine HR.out.mono ?_
    rintro e w1 ⟨rfl, hb1⟩
    clear f3 f4
    go_wp2
    go_ret
    exact ⟨rfl, by (repeat (first | (with_reducible exact Below.refl _ _) | (with_reducible assumption) | (with_reducible refine below_al ?_) | (with_reducible refine below_dr ?_) | (with_reducible refine below_drN ?_) | (with_reducible refine below_set ?_ (by first | exact Nat.le_refl _ | (dsimp only; omega) | omega)) | (with_reducible refine below_tr (by with_reducible assumption) ?_)))⟩
  · go_enter Tryz.func177, Tryz.ntmps177
    go_wp2_with fail
    refine HR.out.mono ?_
    rintro e w1 ⟨rfl, hb1⟩
    have f3 := G3.out _ hb1
    have f4 := G4.out _ hb1
    go_wp2_with fail
    refine (HF.out _).mono ?_
    rintro e w2 ⟨rfl, rfl⟩
    go_wp2
    go_ret
    exact ⟨by first | rfl | simp, by (repeat (first | (with_reducible exact Below.refl _ _) | (with_reducible assumption) | (with_reducible refine below_al ?_) | (with_reducible refine below_dr ?_) | (with_reducible refine below_drN ?_) | (with_reducible refine below_set ?_ (by first | exact Nat.le_refl _ | (dsimp only; omega) | omega)) | (with_reducible refine below_tr (by with_reducible assumption) ?_)))⟩
def stepB (n : Nat) (L : List (List Int)) (i k most : Int) : Bool := areBlocksB n L && (inR 0 ((n : Int) - 1) i && inR 0 most k)
set_option maxRecDepth 100000 in
set_option maxHeartbeats 1000000 in
theorem stepsCode_c (c : Int) (ts : List T4) (A : Option Addr) (cx : Nat) (L : List (List Int)) (B : Option Addr) (cr : Nat) (i k most : Int) (w : World) (hT : TileCells w A ts) (hl : ts.length ≤ 1000000000) (hR : RowsC w B L) (hn : L.length ≤ 1000000000) (hS : Short 1000000000 L) :
    Calls Tryz.prog 92 #[.agg #[.int .i64 c, .slice A ts.length cx], .slice B L.length cr, .int .i64 i, .int .i64 k, .int .i64 most] w fun e w' => e = .returned (.int .i64 (codeB (isSetB c ts) (stepB ts.length L i k most))) ∧ Below w.heap.size w w' := by
  have HC := Lib.hid (fun (wq : World) (hwq : Below w.heap.size w wq) (b1 b2 b3 b4 : Nat) h0 h1 h2 h3 h4 => blocksCode_c c ts A cx L B cr 177 #[.pointer (some ⟨b1, 0, none⟩), .pointer (some ⟨b2, 0, none⟩), .pointer (some ⟨b3, 0, none⟩), .pointer (some ⟨b4, 0, none⟩)]
    (inR 0 ((ts.length : Int) - 1) i && inR 0 most k) wq (fun _ _ => rfl) (hT.below hwq) hl (hR.below hwq) hn hS
    (fun _ _ w1 hb => stepsCode1_c c A ts.length cx i k most b1 b2 b3 b4 w1 hl (keepC h0 _ hb) (keepC h1 _ hb) (keepC h2 _ hb) (keepC h3 _ hb) (keepC h4 _ hb)))
  have HV : Hid (stepB ts.length L i k most = (areBlocksB ts.length L && (inR 0 ((ts.length : Int) - 1) i && inR 0 most k))) := rfl
  clear hT hR
  go_enter Tryz.func92, Tryz.ntmps92
  go_wp2_with fail
  refine (HC.out _ (by (repeat (first | (with_reducible exact Below.refl _ _) | (with_reducible assumption) | (with_reducible refine below_al ?_) | (with_reducible refine below_dr ?_) | (with_reducible refine below_drN ?_) | (with_reducible refine below_set ?_ (by first | exact Nat.le_refl _ | (dsimp only; omega) | omega)) | (with_reducible refine below_tr (by with_reducible assumption) ?_)))) _ _ _ _ ?_ ?_ ?_ ?_ ?_).mono ?_
  · (repeat (first | (exact cell_al _ _ _ _ _ _ (by simp) rfl) | (refine cell_alloc_old _ _ _ _ _ ?_)))
  · (repeat (first | (exact cell_al _ _ _ _ _ _ (by simp) rfl) | (refine cell_alloc_old _ _ _ _ _ ?_)))
  · (repeat (first | (exact cell_al _ _ _ _ _ _ (by simp) rfl) | (refine cell_alloc_old _ _ _ _ _ ?_)))
  · (repeat (first | (exact cell_al _ _ _ _ _ _ (by simp) rfl) | (refine cell_alloc_old _ _ _ _ _ ?_)))
  · (repeat (first | (exact cell_al _ _ _ _ _ _ (by simp) rfl) | (refine cell_alloc_old _ _ _ _ _ ?_)))
  rintro e w1 ⟨rfl, hb1⟩
  go_wp2
  go_ret
  exact ⟨ret_int (by rw [HV.out]), by (repeat (first | (with_reducible exact Below.refl _ _) | (with_reducible assumption) | (with_reducible refine below_al ?_) | (with_reducible refine below_dr ?_) | (with_reducible refine below_drN ?_) | (with_reducible refine below_set ?_ (by first | exact Nat.le_refl _ | (dsimp only; omega) | omega)) | (with_reducible refine below_tr (by with_reducible assumption) ?_)))⟩
/-- the corners, one after the other -/
def cornerAt (L : List (List Int)) (i : Int) : Nat → Int
  | 0 => i
  | k + 1 => (L.getD (cornerAt L i k).toNat []).getD 0 0
def corners (L : List (List Int)) (i : Int) (n : Nat) : List Int := (List.range n).map (cornerAt L i)
theorem corners_succ (L : List (List Int)) (i : Int) (n : Nat) : corners L i (n + 1) = corners L i n ++ [cornerAt L i n] := by simp [corners, List.range_succ]
theorem corners_len (L : List (List Int)) (i : Int) (n : Nat) : (corners L i n).length = n := by simp [corners]
theorem corners_get (L : List (List Int)) (i : Int) (n j : Nat) (h : j < (corners L i n).length) : (corners L i n)[j] = cornerAt L i j := by simp [corners]
theorem corner_in {n : Nat} {L : List (List Int)} (hB : Blocks n L) {i : Int} (h0 : 0 ≤ i) (h1 : i < n) : ∀ k, 0 ≤ cornerAt L i k ∧ cornerAt L i k < n
  | 0 => ⟨h0, h1⟩
  | k + 1 => by
    obtain ⟨a, b⟩ := corner_in hB h0 h1 k
    obtain ⟨m, hm⟩ := Int.eq_ofNat_of_zero_le a
    have hmL : m < L.length := by rw [hB.1]; omega
    obtain ⟨hl, hr⟩ := hB.2 m hmL
    have h0 : 0 < L[m].length := by omega
    have := hr 0 h0
    unfold cornerAt
    rw [hm]
    simp only [Int.toNat_natCast]
    rw [show L.getD m [] = L[m] by simp [hmL], show L[m].getD 0 0 = L[m][0] by simp [h0]]
    exact this
theorem corner_step {n : Nat} {L : List (List Int)} (hB : Blocks n L) {i : Int} (h0 : 0 ≤ i) (h1 : i < n) (k : Nat) : ∃ m, ∃ h : m < L.length, ∃ h4 : 0 < L[m].length, cornerAt L i k = (m : Int) ∧ cornerAt L i (k + 1) = L[m][0] := by
  obtain ⟨a, b⟩ := corner_in hB h0 h1 k
  obtain ⟨m, hm⟩ := Int.eq_ofNat_of_zero_le a
  have hmL : m < L.length := by rw [hB.1]; omega
  obtain ⟨hl, hr⟩ := hB.2 m hmL
  have h0 : 0 < L[m].length := by omega
  refine ⟨m, hmL, h0, hm, ?_⟩
  show (L.getD (cornerAt L i k).toNat []).getD 0 0 = _
  rw [hm]
  simp [hmL, h0]
/-- n is the first place whose corner stood ahead, at k -/
def Rep (f : Nat → Int) (n k : Nat) : Prop := (∀ a b, a < b → b < n → f a ≠ f b) ∧ k < n ∧ f k = f n
theorem Rep.uniq {f : Nat → Int} {n k n' k' : Nat} (h : Rep f n k) (h' : Rep f n' k') : n = n' ∧ k = k' := by
  obtain ⟨d, l, e⟩ := h
  obtain ⟨d', l', e'⟩ := h'
  have hn : n = n' := by
    rcases Nat.lt_trichotomy n n' with hh | hh | hh
    · exact absurd e (d' k n l hh)
    · exact hh
    · exact absurd e' (d k' n' l' hh)
  subst hn
  refine ⟨rfl, ?_⟩
  rcases Nat.lt_trichotomy k k' with hh | hh | hh
  · exact absurd (e.trans e'.symm) (d k k' hh l')
  · exact hh
  · exact absurd (e'.trans e.symm) (d k' k hh l)
noncomputable def repOf (f : Nat → Int) : Nat × Nat := open Classical in if h : ∃ p : Nat × Nat, Rep f p.1 p.2 then h.choose else (0, 0)
theorem repOf_eq {f : Nat → Int} {n k : Nat} (h : Rep f n k) : repOf f = (n, k) := by
  have he : ∃ p : Nat × Nat, Rep f p.1 p.2 := ⟨(n, k), h⟩
  unfold repOf
  rw [dif_pos he]
  obtain ⟨e1, e2⟩ := he.choose_spec.uniq h
  exact Prod.ext e1 e2
def cpCode (c : Int) (ts : List T4) (L : List (List Int)) (i : Int) : Int := codeB (isSetB c ts) (stepB ts.length L i 0 0)
noncomputable def cpFrom (c : Int) (ts : List T4) (L : List (List Int)) (i : Int) : Int := if cpCode c ts L i = 0 then ((repOf (cornerAt L i)).2 : Int) else 0
noncomputable def cpLen (c : Int) (ts : List T4) (L : List (List Int)) (i : Int) : Int := if cpCode c ts L i = 0 then ((repOf (cornerAt L i)).1 : Int) - ((repOf (cornerAt L i)).2 : Int) else 0
theorem codeB_ne {s b : Bool} (h : ¬ codeB s b = 0) : codeB s b = 1 ∨ codeB s b = 2 := by cases s <;> cases b <;> simp [codeB] at *
theorem codeB_zero {s b : Bool} (h : codeB s b = 0) : s = true ∧ b = true := by cases s <;> cases b <;> simp [codeB] at *
theorem stepB_parts {n : Nat} {L : List (List Int)} {i k most : Int} (h : stepB n L i k most = true) : Blocks n L ∧ (0 ≤ i ∧ i < n) ∧ 0 ≤ k ∧ k ≤ most := by
  unfold stepB at h
  rw [Bool.and_eq_true, Bool.and_eq_true, inR_iff, inR_iff] at h
  exact ⟨areBlocksB_iff h.1, ⟨h.2.1.1, by omega⟩, h.2.2⟩
theorem ret_iii {a b c d e f : Int} (h : a = b) (h' : c = d) (h2 : e = f) : Ending.returned (.tuple #[.int .i64 a, .int .i64 c, .int .i64 e]) = .returned (.tuple #[.int .i64 b, .int .i64 d, .int .i64 f]) := by rw [h, h', h2]
end Go.Proofs.YtkgnejhflnekaaaGreat
namespace Go.Proofs.YtkgnejhflnekaaaGreat
open Go.RowKit
theorem app_intsN {o : Oper} {a : Act} {W : World} {K : Act → World → Prop} {Q : Exit → Act → World → Prop} (s x : Operand)
    (ho : o.op = .call { callee := .builtin .append, args := #[s, x], argTypes := #[35, 35] }) (B : Nat) (v : Value) (xs ys : List Int) (hs : a.eval s = v) (hown : OwnI W B v xs)
    (b off cap : Nat) (hx : a.eval x = .slice (some ⟨b, off, none⟩) ys.length cap) (hc : ∀ j (h : j < ys.length), W.cell? ⟨b, off + j, none⟩ = some (.int .i64 ys[j])) (hl : xs.length + ys.length ≤ 1000000000000) (hB : B ≤ W.heap.size)
    (h : ∀ v' w', OwnI w' B v' (xs ++ ys) → W.grownBy w' v.ownBlock → (v'.ownBlock = v.ownBlock ∨ v'.ownBlock = some W.heap.size) → K (a.put o.dst v') w') : o.wp Tryz.prog a W K Q := by
  refine app_gen s x 35 2 (.int .i64 0) 1 8 ho Tryz.underlying35 infoInt rfl (by decide) B v xs.length (ints xs) hs hown ⟨b, off, none⟩ ys.length cap (ints ys) hx (by rw [ints_length, Nat.mul_one]) ?_ ?_ ?_ ?_ hB ?_
  · intro j u hj
    rw [add_off]
    have hj2 : j < ys.length := by
      have := (List.getElem?_eq_some_iff.1 hj).1
      rwa [ints_length] at this
    rw [hc j hj2]
    rw [← hj]
    simp [ints, hj2]
  · intro u hu
    simp only [ints, List.mem_map] at hu
    obtain ⟨z, _, rfl⟩ := hu
    rfl
  · simp [maxLen]; omega
  · omega
  · intro v' w' h1 h2 h3
    refine h v' w' ?_ h2 h3
    unfold OwnI
    have e : ints (xs ++ ys) = ints xs ++ ints ys := by simp [ints]
    rw [e, List.length_append]
    exact h1
/-- the slices of a list of slices have room for what they hold -/
def CapsC (w : World) (B : Option Addr) (L : List (List Int)) : Prop :=
  ∀ k (h : k < L.length) b off A cx, B = some ⟨b, off, none⟩ → w.cell? ⟨b, off + k, none⟩ = some (.slice A L[k].length cx) → L[k].length ≤ cx
theorem CapsC.below {w w1 : World} {B : Option Addr} {L : List (List Int)} (h : CapsC w B L) (hR : RowsC w B L) (hb : Below w.heap.size w w1) : CapsC w1 B L := by
  intro k hk b off A cx e hc
  obtain ⟨b', off', A', cx', e', hlt, hc', _⟩ := hR k hk
  rw [e] at e'
  injection e' with e'
  injection e' with e1 e2
  subst e1 e2
  rw [(hb.cell (p := ⟨b, _, none⟩) hlt)] at hc
  exact h k hk b off A cx e hc
theorem OwnI.cap {w : World} {B n cx : Nat} {A : Option Addr} {xs : List Int} (h : OwnI w B (.slice A n cx) xs) : xs.length ≤ cx := by
  obtain ⟨h1, h2⟩ := h
  rcases h2 with ⟨e1, e2⟩ | ⟨g', cap, cur, e1, _, _, e4, _⟩
  · omega
  · injection e1 with a1 a2 a3; omega
theorem OwnII.caps {w : World} {B n cx : Nat} {A : Option Addr} {L : List (List Int)} (h : OwnII w B (.slice A n cx) L) : CapsC w A L := by
  intro k hk b off A' cx' e hc
  obtain ⟨vs, h1, h2, _⟩ := h
  have hl : vs.length = L.length := by have := h1.1; omega
  have h0 := h1
  obtain ⟨_, h3⟩ := h1
  rcases h3 with ⟨h3, h4⟩ | ⟨g, cap, cur, e1, e2, e3, _⟩
  · omega
  · injection e1 with a1 a2 a3
    subst a1 a2 a3
    injection e with e
    injection e with e5 e6
    subst e5 e6
    have h9 := World.ownsRow.cellAt h0 k (by omega)
    rw [Nat.zero_add, h9, List.getElem?_eq_getElem (by omega)] at hc
    have ho := h2 k (by omega) hk
    rw [Option.some.inj hc] at ho
    exact ho.cap
def gTop (L : List (List Int)) (row : List Int) : List Int := row.flatMap fun i => (L.getD i.toNat []).take 2
def gBot (L : List (List Int)) (row : List Int) : List Int := row.flatMap fun i => (L.getD i.toNat []).drop 2
def grownL (L rows : List (List Int)) : List (List Int) := rows.flatMap fun r => [gTop L r, gBot L r]
def NumsIn (N : Nat) (rows : List (List Int)) : Prop := ∀ k (h : k < rows.length) j (hj : j < rows[k].length), 0 ≤ rows[k][j] ∧ rows[k][j] < N
theorem gTop_succ {L : List (List Int)} {row : List Int} {k m : Nat} {b0 b1 b2 b3 : Int} (hk : k < row.length) (hm : row[k] = (m : Int)) (h : m < L.length) (e : L[m] = [b0, b1, b2, b3]) :
    gTop L (row.take (k + 1)) = gTop L (row.take k) ++ [b0, b1] ∧ gBot L (row.take (k + 1)) = gBot L (row.take k) ++ [b2, b3] := by
  unfold gTop gBot; rw [List.take_succ_eq_append_getElem hk, List.flatMap_append, List.flatMap_append]
  simp [hm, h, e]
theorem gTop_len {N : Nat} {L : List (List Int)} (hB : Blocks N L) {row : List Int} (hr : ∀ j (hj : j < row.length), 0 ≤ row[j] ∧ row[j] < N) : (gTop L row).length = 2 * row.length ∧ (gBot L row).length = 2 * row.length := by
  induction row with
  | nil => simp [gTop, gBot]
  | cons x xs ih =>
    obtain ⟨i1, i2⟩ := ih (fun j hj => hr (j + 1) (by simpa using hj))
    obtain ⟨x0, x1⟩ := hr 0 (by simp)
    simp only [List.getElem_cons_zero] at x0 x1
    obtain ⟨m, rfl⟩ := Int.eq_ofNat_of_zero_le x0
    have hm : m < L.length := by rw [hB.1]; omega
    have h4 := (hB.2 m hm).1
    have e1 : gTop L ((m : Int) :: xs) = (L.getD m []).take 2 ++ gTop L xs := rfl
    have e2 : gBot L ((m : Int) :: xs) = (L.getD m []).drop 2 ++ gBot L xs := rfl
    have e3 : L.getD m [] = L[m] := by simp [hm]
    rw [e1, e2, e3, List.length_append, List.length_append, i1, i2, List.length_take, List.length_drop, h4, List.length_cons]
    omega
theorem grownL_succ {L rows : List (List Int)} {k : Nat} (hk : k < rows.length) : grownL L (rows.take (k + 1)) = grownL L (rows.take k) ++ [gTop L rows[k], gBot L rows[k]] := by
  unfold grownL; rw [List.take_succ_eq_append_getElem hk, List.flatMap_append]; simp
theorem grownL_len (L rows : List (List Int)) : (grownL L rows).length = 2 * rows.length := by
  unfold grownL
  induction rows with
  | nil => rfl
  | cons r rs ih => rw [List.flatMap_cons, List.length_append, ih]; simp; omega
theorem four_of {xs : List Int} (h : xs.length = 4) : ∃ a b c d, xs = [a, b, c, d] := by
  match xs, h with
  | [a, b, c, d], _ => exact ⟨a, b, c, d, rfl⟩
theorem OwnI.emptyAt {w : World} {B g : Nat} (hg : w.heap.size = g) (hB : B ≤ w.heap.size) : OwnI (w.alloc (.cells #[] 2)) B (.slice (some ⟨g, 0, none⟩) 0 0) [] := OwnI.newly hg rfl rfl hB (by simp)
end Go.Proofs.YtkgnejhflnekaaaGreat
namespace Go.Proofs.YtkgnejhflnekaaaGreat
open Go.RowKit
theorem NumsIn_iff {N : Nat} {rows : List (List Int)} : NumsIn N rows ↔ ∀ r ∈ rows, ∀ x ∈ r, 0 ≤ x ∧ x < (N : Int) := by
  constructor
  · intro h r hr x hx
    obtain ⟨k, hk, rfl⟩ := List.getElem_of_mem hr
    obtain ⟨j, hj, rfl⟩ := List.getElem_of_mem hx
    exact h k hk j hj
  · intro h k hk j hj
    exact h _ (List.getElem_mem hk) _ (List.getElem_mem hj)
theorem Short_iff {n : Nat} {rows : List (List Int)} : Short n rows ↔ ∀ r ∈ rows, r.length ≤ n := by
  constructor
  · intro h r hr
    obtain ⟨k, hk, rfl⟩ := List.getElem_of_mem hr
    exact h k hk
  · intro h k hk
    exact h _ (List.getElem_mem hk)
theorem mem_grownL {L rows : List (List Int)} {r : List Int} : r ∈ grownL L rows ↔ ∃ row ∈ rows, r = gTop L row ∨ r = gBot L row := by
  unfold grownL; simp [List.mem_flatMap]
theorem grownL_nums {N : Nat} {L rows : List (List Int)} (hB : Blocks N L) (h : NumsIn N rows) : NumsIn N (grownL L rows) := by
  rw [NumsIn_iff] at *
  intro r hr x hx
  have key : ∀ i : Int, 0 ≤ i ∧ i < N → ∀ y ∈ L.getD i.toNat [], 0 ≤ y ∧ y < (N : Int) := fun i hi y hy => by
    obtain ⟨m, rfl⟩ := Int.eq_ofNat_of_zero_le hi.1
    have hm : m < L.length := by rw [hB.1]; omega
    rw [Int.toNat_natCast, show L.getD m [] = L[m] by simp [hm]] at hy
    obtain ⟨j, hj, rfl⟩ := List.getElem_of_mem hy
    exact (hB.2 m hm).2 j hj
  obtain ⟨row, hrow, rfl | rfl⟩ := mem_grownL.1 hr
  · obtain ⟨i, hi, hx⟩ := List.mem_flatMap.1 hx
    exact key i (h row hrow i hi) x (List.mem_of_mem_take hx)
  · obtain ⟨i, hi, hx⟩ := List.mem_flatMap.1 hx
    exact key i (h row hrow i hi) x (List.mem_of_mem_drop hx)
theorem grownL_short {N n : Nat} {L rows : List (List Int)} (hB : Blocks N L) (h : NumsIn N rows) (hs : Short n rows) : Short (2 * n) (grownL L rows) := by
  rw [Short_iff] at *
  rw [NumsIn_iff] at h
  intro r hr
  obtain ⟨row, hrow, e⟩ := mem_grownL.1 hr
  have hl := gTop_len hB (row := row) (fun j hj => h row hrow _ (List.getElem_mem hj))
  have := hs row hrow
  rcases e with rfl | rfl <;> omega
theorem tot_le {n : Nat} : ∀ {L : List (List Int)}, (∀ r ∈ L, r.length ≤ n) → tot L ≤ n * L.length
  | [], _ => by simp [tot]
  | r :: L, h => by
    rw [show tot (r :: L) = r.length + tot L by simp [tot], List.length_cons, Nat.mul_add]
    have h1 := h r (List.mem_cons_self ..)
    have h2 := tot_le (L := L) (fun x hx => h x (List.mem_cons_of_mem _ hx))
    omega
/-- what a call gives back that returns a new list of lists of numbers and a code -/
def RetIIC3 (w : World) (L : List (List Int)) (c : Int) (e : Ending) (w' : World) : Prop :=
  ∃ v, e = .returned (.tuple #[v, .int .i64 c]) ∧ OwnII w' w.heap.size v L ∧ Below w.heap.size w w'
theorem OwnII.one {w : World} {B g : Nat} (x : Int) (hg : w.heap.size = g) (hB : B ≤ w.heap.size) : OwnII ((w.alloc (.cells #[.int .i64 x] 2)).alloc (.cells #[.slice (some ⟨g, 0, none⟩) 1 1] 35)) B (.slice (some ⟨g + 1, 0, none⟩) 1 1) [[x]] := by
  subst hg
  refine ⟨[.slice (some ⟨w.heap.size, 0, none⟩) 1 1], ?_, fun i h h' => ?_, fun i j h h' hij => ?_, fun i h => ?_⟩
  · have := World.ownsRow_lit (base := B) (e := 35) (size := 1) (w.alloc (.cells #[.int .i64 x] 2)) #[.slice (some ⟨w.heap.size, 0, none⟩) 1 1] 1 (by simp; omega) (by simp [maxLen]) (by simp)
    simpa using this
  · have hi : i = 0 := by simp at h; omega
    subst hi
    exact (OwnI.made w B #[.int .i64 x] [x] rfl hB (by simp)).alloc _
  · simp at h h'; omega
  · have hi : i = 0 := by simp at h; omega
    subst hi
    exact Apart.blk (by omega)
end Go.Proofs.YtkgnejhflnekaaaGreat
