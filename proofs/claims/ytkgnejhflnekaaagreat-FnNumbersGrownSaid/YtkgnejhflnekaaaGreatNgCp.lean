/- Contracts and lemmas for the statements of this seat, written for this claim; each theorem states its own conditions. -/
import Derived.Test.YtkgnejhflnekaaaGreatNgBy
import Derived.Test.YtkgnejhflnekaaaGreatNgAp
import Derived.Test.YtkgnejhflnekaaaGreatNgB
set_option linter.unusedVariables false
set_option linter.unusedSimpArgs false
namespace Go.Proofs.YtkgnejhflnekaaaGreat
open Go.RowKit
attribute [local go_sem] addUpon_value addUpon_skip addUpon_enter
set_option maxRecDepth 100000 in
set_option maxHeartbeats 1000000 in
theorem stepsCode1_c (c : Int) (A : Option Addr) (n cx : Nat) (i k most : Int) (b1 b2 b3 b4 : Nat) (w : World) (hl : n ≤ 1000000000)
    (f0 : w.cell? ⟨b1, 0, none⟩ = some (.int .i64 c)) (f1 : w.cell? ⟨b1, 1, none⟩ = some (.slice A n cx)) (f2 : w.cell? ⟨b2, 0, none⟩ = some (.int .i64 i)) (f3 : w.cell? ⟨b3, 0, none⟩ = some (.int .i64 k)) (f4 : w.cell? ⟨b4, 0, none⟩ = some (.int .i64 most)) :
    Calls Tryz.prog 177 #[.pointer (some ⟨b1, 0, none⟩), .pointer (some ⟨b2, 0, none⟩), .pointer (some ⟨b3, 0, none⟩), .pointer (some ⟨b4, 0, none⟩)] w fun e w' => e = .returned (.bool (inR 0 ((n : Int) - 1) i && inR 0 most k)) ∧ Below w.heap.size w w' := by
  have HR := Lib.hid (isNumber_c c A n cx i w hl)
  have HF := Lib.hid (fun w => within_c k 0 most w)
  have G3 := Lib.hid (keepC f3)
  have G4 := Lib.hid (keepC f4)
  generalize inR 0 ((n : Int) - 1) i = r at *
  generalize inR 0 most k = s at *
  cases r
  · go_enter Tryz.func177, Tryz.ntmps177
    go_wp2_with fail
    refine HR.out.mono ?_
    rintro e w1 ⟨rfl, hb1⟩
    clear f3 f4
    go_wp2
    go_ret
    exact ⟨rfl, by (repeat (first | (with_reducible exact Below.refl _ _) | (with_reducible assumption) | (with_reducible refine below_al ?_) | (with_reducible refine below_dr ?_) | (with_reducible refine below_drN ?_) | (with_reducible refine below_set ?_ (by first | exact Nat.le_refl _ | (dsimp only; omega) | omega)) | (with_reducible refine below_tr (by with_reducible assumption) ?_)))⟩
  · go_enter Tryz.func177, Tryz.ntmps177
    go_wp2_with fail
    refine HR.out.mono ?_
    rintro e w1 ⟨rfl, hb1⟩
    have f3 := G3.out _ hb1
    have f4 := G4.out _ hb1
    go_wp2_with fail
    refine (HF.out _).mono ?_
    rintro e w2 ⟨rfl, rfl⟩
    go_wp2
    go_ret
    exact ⟨by first | rfl | simp, by (repeat (first | (with_reducible exact Below.refl _ _) | (with_reducible assumption) | (with_reducible refine below_al ?_) | (with_reducible refine below_dr ?_) | (with_reducible refine below_drN ?_) | (with_reducible refine below_set ?_ (by first | exact Nat.le_refl _ | (dsimp only; omega) | omega)) | (with_reducible refine below_tr (by with_reducible assumption) ?_)))⟩
def stepB (n : Nat) (L : List (List Int)) (i k most : Int) : Bool := areBlocksB n L && (inR 0 ((n : Int) - 1) i && inR 0 most k)
set_option maxRecDepth 100000 in
set_option maxHeartbeats 1000000 in
theorem stepsCode_c (c : Int) (ts : List T4) (A : Option Addr) (cx : Nat) (L : List (List Int)) (B : Option Addr) (cr : Nat) (i k most : Int) (w : World) (hT : TileCells w A ts) (hl : ts.length ≤ 1000000000) (hR : RowsC w B L) (hn : L.length ≤ 1000000000) (hS : Short 1000000000 L) :
    Calls Tryz.prog 92 #[.agg #[.int .i64 c, .slice A ts.length cx], .slice B L.length cr, .int .i64 i, .int .i64 k, .int .i64 most] w fun e w' => e = .returned (.int .i64 (codeB (isSetB c ts) (stepB ts.length L i k most))) ∧ Below w.heap.size w w' := by
  have HC := Lib.hid (fun (wq : World) (hwq : Below w.heap.size w wq) (b1 b2 b3 b4 : Nat) h0 h1 h2 h3 h4 => blocksCode_c c ts A cx L B cr 177 #[.pointer (some ⟨b1, 0, none⟩), .pointer (some ⟨b2, 0, none⟩), .pointer (some ⟨b3, 0, none⟩), .pointer (some ⟨b4, 0, none⟩)]
    (inR 0 ((ts.length : Int) - 1) i && inR 0 most k) wq (fun _ _ => rfl) (hT.below hwq) hl (hR.below hwq) hn hS
    (fun _ _ w1 hb => stepsCode1_c c A ts.length cx i k most b1 b2 b3 b4 w1 hl (keepC h0 _ hb) (keepC h1 _ hb) (keepC h2 _ hb) (keepC h3 _ hb) (keepC h4 _ hb)))
  have HV : Hid (stepB ts.length L i k most = (areBlocksB ts.length L && (inR 0 ((ts.length : Int) - 1) i && inR 0 most k))) := rfl
  clear hT hR
  go_enter Tryz.func92, Tryz.ntmps92
  go_wp2_with fail
  refine (HC.out _ (by (repeat (first | (with_reducible exact Below.refl _ _) | (with_reducible assumption) | (with_reducible refine below_al ?_) | (with_reducible refine below_dr ?_) | (with_reducible refine below_drN ?_) | (with_reducible refine below_set ?_ (by first | exact Nat.le_refl _ | (dsimp only; omega) | omega)) | (with_reducible refine below_tr (by with_reducible assumption) ?_)))) _ _ _ _ ?_ ?_ ?_ ?_ ?_).mono ?_
  · (repeat (first | (exact cell_al _ _ _ _ _ _ (by simp) rfl) | (refine cell_alloc_old _ _ _ _ _ ?_)))
  · (repeat (first | (exact cell_al _ _ _ _ _ _ (by simp) rfl) | (refine cell_alloc_old _ _ _ _ _ ?_)))
  · (repeat (first | (exact cell_al _ _ _ _ _ _ (by simp) rfl) | (refine cell_alloc_old _ _ _ _ _ ?_)))
  · (repeat (first | (exact cell_al _ _ _ _ _ _ (by simp) rfl) | (refine cell_alloc_old _ _ _ _ _ ?_)))
  · (repeat (first | (exact cell_al _ _ _ _ _ _ (by simp) rfl) | (refine cell_alloc_old _ _ _ _ _ ?_)))
  rintro e w1 ⟨rfl, hb1⟩
  go_wp2
  go_ret
  exact ⟨ret_int (by rw [HV.out]), by (repeat (first | (with_reducible exact Below.refl _ _) | (with_reducible assumption) | (with_reducible refine below_al ?_) | (with_reducible refine below_dr ?_) | (with_reducible refine below_drN ?_) | (with_reducible refine below_set ?_ (by first | exact Nat.le_refl _ | (dsimp only; omega) | omega)) | (with_reducible refine below_tr (by with_reducible assumption) ?_)))⟩
set_option maxRecDepth 100000 in
set_option maxHeartbeats 1000000 in
theorem l09Tile_c (c : Int) (ts : List T4) (A : Option Addr) (cx : Nat) (L : List (List Int)) (B : Option Addr) (cr : Nat) (i k most : Int) (w : World) (hT : TileCells w A ts) (hl : ts.length ≤ 1000000000) (hR : RowsC w B L) (hn : L.length ≤ 1000000000) (hS : Short 1000000000 L) :
    Calls Tryz.prog 93 #[.agg #[.int .i64 c, .slice A ts.length cx], .slice B L.length cr, .int .i64 i, .int .i64 k, .int .i64 most] w fun e w' => e = .returned (.int .i64 (codeB (isSetB c ts) (stepB ts.length L i k most))) ∧ Below w.heap.size w w' := by
  have HC := Lib.hid (fun (wq : World) (hq : Below w.heap.size w wq) => l09Code_c c ts A cx L B cr wq (hT.below hq) hl (hR.below hq) hn hS)
  have HV : Hid (stepB ts.length L i k most = (areBlocksB ts.length L && (inR 0 ((ts.length : Int) - 1) i && inR 0 most k))) := rfl
  have HB := Lib.hid (areBlocksB_iff (n := ts.length) (L := L))
  have qL : IntKind.i64.wrap ((L.length : Int) - 1) = (L.length : Int) - 1 := IntWalk.i64_in _ (by omega)
  clear hT hR
  generalize isSetB c ts = s at *
  generalize hab : areBlocksB ts.length L = a at *
  clear hab
  cases s
  · rw [show codeB false a = 1 from rfl] at HC
    rw [show codeB false (stepB ts.length L i k most) = 1 from rfl]
    go_enter Tryz.func93, Tryz.ntmps93
    go_wp2_with fail
    refine (HC.out _ (by (repeat (first | (with_reducible exact Below.refl _ _) | (with_reducible assumption) | (with_reducible refine below_al ?_) | (with_reducible refine below_dr ?_) | (with_reducible refine below_drN ?_) | (with_reducible refine below_set ?_ (by first | exact Nat.le_refl _ | (dsimp only; omega) | omega)) | (with_reducible refine below_tr (by with_reducible assumption) ?_))))).mono ?_
    rintro e w1 ⟨rfl, hb1⟩
    have Hw1 : Hid (Below w.heap.size w w1) := by (show Below _ _ _); (repeat (first | (with_reducible exact Below.refl _ _) | (with_reducible assumption) | (with_reducible refine below_al ?_) | (with_reducible refine below_dr ?_) | (with_reducible refine below_drN ?_) | (with_reducible refine below_set ?_ (by first | exact Nat.le_refl _ | (dsimp only; omega) | omega)) | (with_reducible refine below_tr (by with_reducible assumption) ?_)))
    clear hb1
    go_wp2
    go_ret
    exact ⟨rfl, Hw1.out⟩
  · cases a
    · rw [show codeB true false = 2 from rfl] at HC
      have HF : Hid (stepB ts.length L i k most = false) := HV.out
      go_enter Tryz.func93, Tryz.ntmps93
      go_wp2_with fail
      refine (HC.out _ (by (repeat (first | (with_reducible exact Below.refl _ _) | (with_reducible assumption) | (with_reducible refine below_al ?_) | (with_reducible refine below_dr ?_) | (with_reducible refine below_drN ?_) | (with_reducible refine below_set ?_ (by first | exact Nat.le_refl _ | (dsimp only; omega) | omega)) | (with_reducible refine below_tr (by with_reducible assumption) ?_))))).mono ?_
      rintro e w1 ⟨rfl, hb1⟩
      have Hw1 : Hid (Below w.heap.size w w1) := by (show Below _ _ _); (repeat (first | (with_reducible exact Below.refl _ _) | (with_reducible assumption) | (with_reducible refine below_al ?_) | (with_reducible refine below_dr ?_) | (with_reducible refine below_drN ?_) | (with_reducible refine below_set ?_ (by first | exact Nat.le_refl _ | (dsimp only; omega) | omega)) | (with_reducible refine below_tr (by with_reducible assumption) ?_)))
      clear hb1
      go_wp2
      go_ret
      exact ⟨by rw [HF.out]; rfl, Hw1.out⟩
    · rw [show codeB true true = 0 from rfl] at HC
      have hLn := (HB.out rfl).1
      have H1 := Lib.hid (fun w => l01In_c i 0 ((L.length : Int) - 1) w)
      rw [show inR 0 ((L.length : Int) - 1) i = inR 0 ((ts.length : Int) - 1) i by rw [hLn]] at H1
      have H2 := Lib.hid (fun w => l01In_c k 0 most w)
      generalize inR 0 ((ts.length : Int) - 1) i = x at *
      generalize inR 0 most k = y at *
      clear hLn HB
      cases x
      · have HF : Hid (stepB ts.length L i k most = false) := HV.out
        go_enter Tryz.func93, Tryz.ntmps93
        go_wp2_with fail
        refine (HC.out _ (by (repeat (first | (with_reducible exact Below.refl _ _) | (with_reducible assumption) | (with_reducible refine below_al ?_) | (with_reducible refine below_dr ?_) | (with_reducible refine below_drN ?_) | (with_reducible refine below_set ?_ (by first | exact Nat.le_refl _ | (dsimp only; omega) | omega)) | (with_reducible refine below_tr (by with_reducible assumption) ?_))))).mono ?_
        rintro e w1 ⟨rfl, hb1⟩
        have Hw1 : Hid (Below w.heap.size w w1) := by (show Below _ _ _); (repeat (first | (with_reducible exact Below.refl _ _) | (with_reducible assumption) | (with_reducible refine below_al ?_) | (with_reducible refine below_dr ?_) | (with_reducible refine below_drN ?_) | (with_reducible refine below_set ?_ (by first | exact Nat.le_refl _ | (dsimp only; omega) | omega)) | (with_reducible refine below_tr (by with_reducible assumption) ?_)))
        clear hb1
        go_wp2_with fail
        refine (H1.out _).mono ?_
        rintro e w3 ⟨rfl, rfl⟩
        go_wp2
        go_ret
        exact ⟨by rw [HF.out]; rfl, Hw1.out⟩
      · cases y
        all_goals
          have HF := Lib.hid HV.out
          go_enter Tryz.func93, Tryz.ntmps93
          go_wp2_with fail
          refine (HC.out _ (by (repeat (first | (with_reducible exact Below.refl _ _) | (with_reducible assumption) | (with_reducible refine below_al ?_) | (with_reducible refine below_dr ?_) | (with_reducible refine below_drN ?_) | (with_reducible refine below_set ?_ (by first | exact Nat.le_refl _ | (dsimp only; omega) | omega)) | (with_reducible refine below_tr (by with_reducible assumption) ?_))))).mono ?_
          rintro e w1 ⟨rfl, hb1⟩
          have Hw1 : Hid (Below w.heap.size w w1) := by (show Below _ _ _); (repeat (first | (with_reducible exact Below.refl _ _) | (with_reducible assumption) | (with_reducible refine below_al ?_) | (with_reducible refine below_dr ?_) | (with_reducible refine below_drN ?_) | (with_reducible refine below_set ?_ (by first | exact Nat.le_refl _ | (dsimp only; omega) | omega)) | (with_reducible refine below_tr (by with_reducible assumption) ?_)))
          clear hb1
          go_wp2_with fail
          refine (H1.out _).mono ?_
          rintro e w3 ⟨rfl, rfl⟩
          go_wp2_with fail
          refine (H2.out _).mono ?_
          rintro e w3 ⟨rfl, rfl⟩
          go_wp2
          go_ret
          exact ⟨by rw [HF.out]; rfl, Hw1.out⟩
set_option maxRecDepth 100000 in
set_option maxHeartbeats 1000000 in
theorem slicesIndex_c (xs : List Int) (A : Option Addr) (cx : Nat) (x : Int) (w : World) (hx : Cells w A (ints xs)) (hl : xs.length ≤ 1000000000) :
    Calls Tryz.prog 98 #[.slice A xs.length cx, .int .i64 x] w fun e w' => e = .returned (.int .i64 (idxI (fun y => x == y) xs)) ∧ w = w' := by
  go_enter Tryz.func98, Tryz.ntmps98
  go_wp2
  go_loop [8] (fun i => ∃ k : Nat, k ≤ xs.length ∧ i = .int .i64 k ∧ Hid (∀ j (h : j < xs.length), j < k → (x == xs[j]) = false)) (fun i => xs.length - (intOf i).toNat)
  case atStart => exact ⟨0, by omega, rfl, fun j _ h => by omega⟩
  case round =>
    obtain ⟨k, hk, rfl, Hn⟩ := hrel
    by_cases h1 : k < xs.length
    · obtain ⟨b, off, rfl, hlt, c0⟩ := hx.int k h1
      clear hx
      cases hE : (x == xs[k])
      · have HE : Hid (∀ j (h : j < xs.length), j < k + 1 → (x == xs[j]) = false) := fun j h hj => by
          by_cases e : j = k
          · subst e; exact hE
          · exact Hn.out j h (by omega)
        generalize xs[k] = y at *
        go_wp2
        go_round
        case rel => exact ⟨k + 1, by omega, by go_num, HE⟩
        case measure => simp [intOf]; omega
      · have HE := Lib.hid (idxI_some (p := fun y => x == y) h1 Hn.out hE)
        generalize xs[k] = y at *
        go_wp2
        go_ret
        exact ⟨ret_int HE.out.symm, rfl⟩
    · have HE := Lib.hid (idxI_none (p := fun y => x == y) (xs := xs) (fun j h => Hn.out j h (by omega)))
      clear hx
      go_wp2
      go_ret
      exact ⟨ret_int HE.out.symm, rfl⟩
theorem idxI_any (p : Int → Bool) (xs : List Int) : decide (0 ≤ idxI p xs) = xs.any p := by
  unfold idxI
  cases h : xs.findIdx? p with
  | none => simp [List.findIdx?_eq_none_iff] at h; simp; simpa using h
  | some i => obtain ⟨hi, h1, h2⟩ := List.findIdx?_eq_some_iff_getElem.1 h; simp; exact ⟨xs[i], List.getElem_mem hi, h1⟩
set_option maxRecDepth 100000 in
set_option maxHeartbeats 1000000 in
theorem slicesContains_c (xs : List Int) (A : Option Addr) (cx : Nat) (x : Int) (w : World) (hx : Cells w A (ints xs)) (hl : xs.length ≤ 1000000000) :
    Calls Tryz.prog 97 #[.slice A xs.length cx, .int .i64 x] w fun e w' => e = .returned (.bool (xs.any (fun y => x == y))) ∧ w = w' := by
  have H := Lib.hid (slicesIndex_c xs A cx x w hx hl)
  have HQ := Lib.hid (idxI_any (fun y => x == y) xs)
  clear hx
  generalize idxI (fun y => x == y) xs = z at *
  go_enter Tryz.func97, Tryz.ntmps97
  go_wp2_with fail
  refine H.out.mono ?_
  rintro e w1 ⟨rfl, rfl⟩
  go_wp2
  go_ret
  exact ⟨ret_bool (by rw [← HQ.out]), rfl⟩
/-- the corners, one after the other -/
def cornerAt (L : List (List Int)) (i : Int) : Nat → Int
  | 0 => i
  | k + 1 => (L.getD (cornerAt L i k).toNat []).getD 0 0
def corners (L : List (List Int)) (i : Int) (n : Nat) : List Int := (List.range n).map (cornerAt L i)
theorem corners_succ (L : List (List Int)) (i : Int) (n : Nat) : corners L i (n + 1) = corners L i n ++ [cornerAt L i n] := by simp [corners, List.range_succ]
theorem corners_len (L : List (List Int)) (i : Int) (n : Nat) : (corners L i n).length = n := by simp [corners]
theorem corners_get (L : List (List Int)) (i : Int) (n j : Nat) (h : j < (corners L i n).length) : (corners L i n)[j] = cornerAt L i j := by simp [corners]
theorem corner_in {n : Nat} {L : List (List Int)} (hB : Blocks n L) {i : Int} (h0 : 0 ≤ i) (h1 : i < n) : ∀ k, 0 ≤ cornerAt L i k ∧ cornerAt L i k < n
  | 0 => ⟨h0, h1⟩
  | k + 1 => by
    obtain ⟨a, b⟩ := corner_in hB h0 h1 k
    obtain ⟨m, hm⟩ := Int.eq_ofNat_of_zero_le a
    have hmL : m < L.length := by rw [hB.1]; omega
    obtain ⟨hl, hr⟩ := hB.2 m hmL
    have h0 : 0 < L[m].length := by omega
    have := hr 0 h0
    unfold cornerAt
    rw [hm]
    simp only [Int.toNat_natCast]
    rw [show L.getD m [] = L[m] by simp [hmL], show L[m].getD 0 0 = L[m][0] by simp [h0]]
    exact this
theorem corner_step {n : Nat} {L : List (List Int)} (hB : Blocks n L) {i : Int} (h0 : 0 ≤ i) (h1 : i < n) (k : Nat) : ∃ m, ∃ h : m < L.length, ∃ h4 : 0 < L[m].length, cornerAt L i k = (m : Int) ∧ cornerAt L i (k + 1) = L[m][0] := by
  obtain ⟨a, b⟩ := corner_in hB h0 h1 k
  obtain ⟨m, hm⟩ := Int.eq_ofNat_of_zero_le a
  have hmL : m < L.length := by rw [hB.1]; omega
  obtain ⟨hl, hr⟩ := hB.2 m hmL
  have h0 : 0 < L[m].length := by omega
  refine ⟨m, hmL, h0, hm, ?_⟩
  show (L.getD (cornerAt L i k).toNat []).getD 0 0 = _
  rw [hm]
  simp [hmL, h0]
set_option maxRecDepth 100000 in
set_option maxHeartbeats 1000000 in
theorem l09Corners_c (L : List (List Int)) (B : Option Addr) (cr : Nat) (i : Int) (n N : Nat) (w : World) (hR : RowsC w B L) (hB : Blocks N L) (h0 : 0 ≤ i) (h1 : i < N) (hn : n ≤ 1000000) :
    Calls Tryz.prog 96 #[.slice B L.length cr, .int .i64 i, .int .i64 n] w fun e w' => ∃ v, e = .returned v ∧ OwnI w' w.heap.size v (corners L i (n + 1)) ∧ Below w.heap.size w w' := by
  have HK := Lib.hid (corner_step hB h0 h1)
  clear hB h0 h1
  go_enter Tryz.func96, Tryz.ntmps96
  go_wp2
  go_loopw [1, 2, 7] (fun x y v wr => ∃ k : Nat, k ≤ n ∧ x = .int .i64 (cornerAt L i k) ∧ y = .int .i64 ((n - k : Nat) : Int) ∧ OwnI wr w.heap.size v (corners L i (k + 1)) ∧ Below w.heap.size w wr) (fun _ y _ _ => (intOf y).toNat)
  case atStart => exact ⟨0, by omega, rfl, by simp, OwnI.newly (by simp) rfl rfl (by simp) (by simp [corners]), by (repeat (first | (with_reducible exact Below.refl _ _) | (with_reducible assumption) | (with_reducible refine below_al ?_) | (with_reducible refine below_dr ?_) | (with_reducible refine below_drN ?_) | (with_reducible refine below_set ?_ (by first | exact Nat.le_refl _ | (dsimp only; omega) | omega)) | (with_reducible refine below_tr (by with_reducible assumption) ?_)))⟩
  case round =>
    obtain ⟨k, hk, rfl, rfl, hO, hb⟩ := hrel
    by_cases hkn : k < n
    · obtain ⟨m, hm, h4, e1, e2⟩ := HK.out k
      obtain ⟨b, off, A1, c1, rfl, hlt, c0, r1⟩ := (hR.below hb) m hm
      obtain ⟨b2, off2, rfl, hlt2, d0⟩ := r1.int 0 h4
      rw [← e2] at d0
      rw [Nat.add_zero] at d0
      have h1' : 0 < ((n - k : Nat) : Int) := by omega
      have hrow : 0 < L[m].length := h4
      have HS := Lib.hid (corners_succ L i (k + 1))
      have HL := corners_len L i (k + 1)
      rw [e1]
      generalize hy : cornerAt L i (k + 1) = y at *
      have HYY := Lib.hid hy
      clear r1 e2 hR hy
      have hO' := Lib.hid hO
      have hb' := Lib.hid hb
      clear hO hb
      go_wp2_with (at_builtin; refine Hold.of ?_)
      refine Hold.to ?_
      obtain ⟨A3, cx3, e3, -, -⟩ := hO'.out.shape
      refine wpl_app_int rfl (.tmp 20) (.tmp 22) rfl w.heap.size _ _ y rfl (hO'.out.alloc _) wr.heap.size 0 rfl (cell_alloc_at _ _ _ _ _ rfl) (by omega) (by have := hb'.out.size; simp; omega) (fun v' w' h1 h2 h3 => ?_)
      rw [← HS.out] at h1
      have h4 := below_grown (below_al hb'.out) h2 (hO'.out.alloc _) (Nat.le_refl _)
      clear h2 h3
      go_wp2_with fail
      go_roundw
      case rel => exact ⟨k + 1, by omega, by rw [HYY.out], by go_num, h1, h4⟩
      case measure => simp [intOf]; omega
    · obtain rfl : k = n := by omega
      go_wp2
      go_ret
      exact ⟨_, rfl, hO, hb⟩
/-- n is the first place whose corner stood ahead, at k -/
def Rep (f : Nat → Int) (n k : Nat) : Prop := (∀ a b, a < b → b < n → f a ≠ f b) ∧ k < n ∧ f k = f n
theorem Rep.uniq {f : Nat → Int} {n k n' k' : Nat} (h : Rep f n k) (h' : Rep f n' k') : n = n' ∧ k = k' := by
  obtain ⟨d, l, e⟩ := h
  obtain ⟨d', l', e'⟩ := h'
  have hn : n = n' := by
    rcases Nat.lt_trichotomy n n' with hh | hh | hh
    · exact absurd e (d' k n l hh)
    · exact hh
    · exact absurd e' (d k' n' l' hh)
  subst hn
  refine ⟨rfl, ?_⟩
  rcases Nat.lt_trichotomy k k' with hh | hh | hh
  · exact absurd (e.trans e'.symm) (d k k' hh l')
  · exact hh
  · exact absurd (e'.trans e.symm) (d k' k hh l)
noncomputable def repOf (f : Nat → Int) : Nat × Nat := open Classical in if h : ∃ p : Nat × Nat, Rep f p.1 p.2 then h.choose else (0, 0)
theorem repOf_eq {f : Nat → Int} {n k : Nat} (h : Rep f n k) : repOf f = (n, k) := by
  have he : ∃ p : Nat × Nat, Rep f p.1 p.2 := ⟨(n, k), h⟩
  unfold repOf
  rw [dif_pos he]
  obtain ⟨e1, e2⟩ := he.choose_spec.uniq h
  exact Prod.ext e1 e2
def cpCode (c : Int) (ts : List T4) (L : List (List Int)) (i : Int) : Int := codeB (isSetB c ts) (stepB ts.length L i 0 0)
noncomputable def cpFrom (c : Int) (ts : List T4) (L : List (List Int)) (i : Int) : Int := if cpCode c ts L i = 0 then ((repOf (cornerAt L i)).2 : Int) else 0
noncomputable def cpLen (c : Int) (ts : List T4) (L : List (List Int)) (i : Int) : Int := if cpCode c ts L i = 0 then ((repOf (cornerAt L i)).1 : Int) - ((repOf (cornerAt L i)).2 : Int) else 0
theorem codeB_ne {s b : Bool} (h : ¬ codeB s b = 0) : codeB s b = 1 ∨ codeB s b = 2 := by cases s <;> cases b <;> simp [codeB] at *
theorem codeB_zero {s b : Bool} (h : codeB s b = 0) : s = true ∧ b = true := by cases s <;> cases b <;> simp [codeB] at *
theorem stepB_parts {n : Nat} {L : List (List Int)} {i k most : Int} (h : stepB n L i k most = true) : Blocks n L ∧ (0 ≤ i ∧ i < n) ∧ 0 ≤ k ∧ k ≤ most := by
  unfold stepB at h
  rw [Bool.and_eq_true, Bool.and_eq_true, inR_iff, inR_iff] at h
  exact ⟨areBlocksB_iff h.1, ⟨h.2.1.1, by omega⟩, h.2.2⟩
theorem ret_iii {a b c d e f : Int} (h : a = b) (h' : c = d) (h2 : e = f) : Ending.returned (.tuple #[.int .i64 a, .int .i64 c, .int .i64 e]) = .returned (.tuple #[.int .i64 b, .int .i64 d, .int .i64 f]) := by rw [h, h', h2]
set_option maxRecDepth 100000 in
set_option maxHeartbeats 1000000 in
theorem implCornerPeriod_c (c : Int) (ts : List T4) (A : Option Addr) (cx : Nat) (L : List (List Int)) (B : Option Addr) (cr : Nat) (i : Int) (w : World) (hT : TileCells w A ts) (hl : ts.length ≤ 1000000000) (hR : RowsC w B L) (hn : L.length ≤ 1000000000) (hS : Short 1000000000 L) :
    Calls Tryz.prog 30 #[.agg #[.int .i64 c, .slice A ts.length cx], .slice B L.length cr, .int .i64 i] w fun e w' => e = .returned (.tuple #[.int .i64 (cpFrom c ts L i), .int .i64 (cpLen c ts L i), .int .i64 (cpCode c ts L i)]) ∧ Below w.heap.size w w' := by
  have HC := Lib.hid (fun (wq : World) (hq : Below w.heap.size w wq) => stepsCode_c c ts A cx L B cr i 0 0 wq (hT.below hq) hl (hR.below hq) hn hS)
  have HR := Lib.hid hR
  have HV : Hid (cpCode c ts L i = codeB (isSetB c ts) (stepB ts.length L i 0 0)) := rfl
  have HV1 : Hid (cpFrom c ts L i = if cpCode c ts L i = 0 then ((repOf (cornerAt L i)).2 : Int) else 0) := rfl
  have HV2 : Hid (cpLen c ts L i = if cpCode c ts L i = 0 then ((repOf (cornerAt L i)).1 : Int) - ((repOf (cornerAt L i)).2 : Int) else 0) := rfl
  clear hT hR
  by_cases h0 : codeB (isSetB c ts) (stepB ts.length L i 0 0) = 0
  · obtain ⟨hs, hst⟩ := codeB_zero h0
    obtain ⟨hB, ⟨i0, i1⟩, -⟩ := stepB_parts hst
    have HK := Lib.hid (corner_step hB i0 i1)
    have HI := Lib.hid (corner_in hB i0 i1)
    have h16 := (isSetB_small hs).2
    have HP := Lib.hid (fun m h => pigeon ts.length (cornerAt L i) m (fun a _ => corner_in hB i0 i1 a) h)
    rw [h0] at HV HC
    have hc0 := HV.out
    have HF1 : Hid (cpFrom c ts L i = ((repOf (cornerAt L i)).2 : Int)) := by rw [Hid, HV1.out, if_pos hc0]
    have HF2 : Hid (cpLen c ts L i = ((repOf (cornerAt L i)).1 : Int) - ((repOf (cornerAt L i)).2 : Int)) := by rw [Hid, HV2.out, if_pos hc0]
    rw [hc0]
    clear hs hst hB i0 i1 h0 hc0 HV HV1 HV2 hS
    go_enter Tryz.func30, Tryz.ntmps30
    go_wp2_with fail
    refine (HC.out _ (by (repeat (first | (with_reducible exact Below.refl _ _) | (with_reducible assumption) | (with_reducible refine below_al ?_) | (with_reducible refine below_dr ?_) | (with_reducible refine below_drN ?_) | (with_reducible refine below_set ?_ (by first | exact Nat.le_refl _ | (dsimp only; omega) | omega)) | (with_reducible refine below_tr (by with_reducible assumption) ?_))))).mono ?_
    rintro e w1 ⟨rfl, hb1⟩
    have Hw1 : Hid (Below w.heap.size w w1) := by (show Below _ _ _); (repeat (first | (with_reducible exact Below.refl _ _) | (with_reducible assumption) | (with_reducible refine below_al ?_) | (with_reducible refine below_dr ?_) | (with_reducible refine below_drN ?_) | (with_reducible refine below_set ?_ (by first | exact Nat.le_refl _ | (dsimp only; omega) | omega)) | (with_reducible refine below_tr (by with_reducible assumption) ?_)))
    clear hb1
    go_wp2_with fail
    go_loopw [2, 10] (fun x v wr => ∃ m : Nat, x = .int .i64 (cornerAt L i m) ∧ OwnI wr w.heap.size v (corners L i m) ∧ Hid (∀ a b, a < b → b < m → cornerAt L i a ≠ cornerAt L i b) ∧ m ≤ ts.length ∧ Below w.heap.size w wr) (fun _ v _ => ts.length + 1 - (match v with | .slice _ n _ => n | _ => 0))
    case atStart => exact ⟨0, rfl, OwnI.newly rfl rfl rfl Hw1.out.size (by simp [corners]), fun a b _ hb => by omega, by omega, by have h1 := Hw1.out; (repeat (first | (with_reducible exact Below.refl _ _) | (with_reducible assumption) | (with_reducible refine below_al ?_) | (with_reducible refine below_dr ?_) | (with_reducible refine below_drN ?_) | (with_reducible refine below_set ?_ (by first | exact Nat.le_refl _ | (dsimp only; omega) | omega)) | (with_reducible refine below_tr (by with_reducible assumption) ?_)))⟩
    case round =>
      obtain ⟨m, rfl, hO, Hd, hm, hb⟩ := hrel
      obtain ⟨A3, cx3, rfl, hN, -⟩ := hO.shape
      have hLn := corners_len L i m
      have HCt := Lib.hid (slicesContains_c (corners L i m) A3 cx3 (cornerAt L i m) wr hN (by omega))
      have HIx := Lib.hid (fun w h => slicesIndex_c (corners L i m) A3 cx3 (cornerAt L i m) w h (by omega))
      have HN := Lib.hid hN
      have HO := Lib.hid hO
      have Hb := Lib.hid hb
      have HLn := Lib.hid hLn
      clear hO hN hb hLn
      cases ht : (corners L i m).any (fun y => cornerAt L i m == y)
      · rw [ht] at HCt
        have Hd2 : Hid (∀ a b, a < b → b < m + 1 → cornerAt L i a ≠ cornerAt L i b) := fun a b hab hbm => by
          by_cases e : b = m
          · subst e
            intro e2
            rw [List.any_eq_false] at ht
            have := ht (cornerAt L i a) (List.mem_map.2 ⟨a, List.mem_range.2 hab, rfl⟩)
            simp [e2] at this
          · exact Hd.out a b hab (by omega)
        have hm2 := HP.out (m + 1) Hd2.out
        obtain ⟨mm, hmm, h4, e1, e2⟩ := HK.out m
        have HSu := Lib.hid (corners_succ L i m)
        clear ht
        rw [e1] at HCt HSu ⊢
        have HE2 := Lib.hid e2
        clear e1 e2 HIx
        go_wp2_with fail
        refine HCt.out.mono ?_
        rintro e w2 ⟨rfl, rfl⟩
        go_wp2_with (at_builtin; refine Hold.of ?_)
        refine Hold.to ?_
        refine wpl_app_int rfl (.tmp 24) (.tmp 26) rfl w.heap.size _ _ (mm : Int) rfl (HO.out.alloc _) wr.heap.size 0 rfl (cell_alloc_at _ _ _ _ _ rfl) (by have := HLn.out; omega) (by have := Hb.out.size; simp; omega) (fun v' w' h1 h2 h3 => ?_)
        rw [← HSu.out] at h1
        have h5 := below_grown (below_al Hb.out) h2 (HO.out.alloc _) (Nat.le_refl _)
        have HO1 := Lib.hid h1
        have H5 := Lib.hid h5
        clear h2 h3 h1 HO
        obtain ⟨b, off, A1, c1, rfl, hlt, c0, r1⟩ := (HR.out.below h5) mm hmm
        obtain ⟨b2, off2, rfl, hlt2, d0⟩ := r1.int 0 h4
        rw [← HE2.out, Nat.add_zero] at d0
        clear r1 h5
        obtain ⟨A4, cx4, e4, -, -⟩ := HO1.out.shape
        rw [corners_len] at e4
        subst e4
        generalize hy : cornerAt L i (m + 1) = y at *
        have HYY := Lib.hid hy
        clear hy
        go_wp2_with fail
        go_roundw
        case rel => exact ⟨m + 1, by rw [HYY.out], HO1.out, Hd2, hm2, H5.out⟩
        case measure =>
          have hq := HLn.out
          simp only [hq]
          simp; omega
      · rw [ht] at HCt
        have hex : ∃ k, k < m ∧ cornerAt L i m = cornerAt L i k := by
          rw [List.any_eq_true] at ht
          obtain ⟨y, hy, he⟩ := ht
          obtain ⟨a, ha, rfl⟩ := List.mem_map.1 hy
          exact ⟨a, List.mem_range.1 ha, by simpa using he⟩
        obtain ⟨k, hk, hek⟩ := hex
        have hrep : Rep (cornerAt L i) m k := ⟨Hd.out, hk, hek.symm⟩
        have hidx : idxI (fun y => cornerAt L i m == y) (corners L i m) = (k : Int) := by
          refine idxI_some (by rw [corners_len]; exact hk) (fun j hj hjk => ?_) (by rw [corners_get]; simpa using hek)
          rw [corners_get, hek]
          have := Hd.out j k hjk hk
          simp; omega
        rw [hidx] at HIx
        have hr := repOf_eq hrep
        have HF3 : Hid (cpFrom c ts L i = (k : Int)) := by rw [Hid, HF1.out, hr]
        have HF4 : Hid (cpLen c ts L i = (m : Int) - k) := by rw [Hid, HF2.out, hr]
        rw [HLn.out] at HCt HIx ⊢
        clear ht hek hrep hidx hr
        generalize cornerAt L i m = x at *
        go_wp2_with fail
        refine HCt.out.mono ?_
        rintro e w2 ⟨rfl, rfl⟩
        go_wp2_with fail
        refine (HIx.out _ HN.out).mono ?_
        rintro e w2 ⟨rfl, rfl⟩
        go_wp2
        go_ret3
        exact ⟨ret_iii HF3.out.symm (by rw [HF4.out]) rfl, Hb.out⟩
  · have hcc := codeB_ne h0
    have HF1 : Hid (cpFrom c ts L i = 0) := by rw [Hid, HV1.out, HV.out, if_neg h0]
    have HF2 : Hid (cpLen c ts L i = 0) := by rw [Hid, HV2.out, HV.out, if_neg h0]
    rw [HV.out]
    generalize codeB (isSetB c ts) (stepB ts.length L i 0 0) = d at *
    have hne : (d != 0) = true := by simpa using h0
    clear hcc h0
    go_enter Tryz.func30, Tryz.ntmps30
    go_wp2_with fail
    refine (HC.out _ (by (repeat (first | (with_reducible exact Below.refl _ _) | (with_reducible assumption) | (with_reducible refine below_al ?_) | (with_reducible refine below_dr ?_) | (with_reducible refine below_drN ?_) | (with_reducible refine below_set ?_ (by first | exact Nat.le_refl _ | (dsimp only; omega) | omega)) | (with_reducible refine below_tr (by with_reducible assumption) ?_))))).mono ?_
    rintro e w1 ⟨rfl, hb1⟩
    have Hw1 : Hid (Below w.heap.size w w1) := by (show Below _ _ _); (repeat (first | (with_reducible exact Below.refl _ _) | (with_reducible assumption) | (with_reducible refine below_al ?_) | (with_reducible refine below_dr ?_) | (with_reducible refine below_drN ?_) | (with_reducible refine below_set ?_ (by first | exact Nat.le_refl _ | (dsimp only; omega) | omega)) | (with_reducible refine below_tr (by with_reducible assumption) ?_)))
    clear hb1
    go_wp2
    go_ret3
    exact ⟨ret_iii HF1.out.symm HF2.out.symm rfl, Hw1.out⟩
set_option maxRecDepth 100000 in
set_option maxHeartbeats 1000000 in
theorem specCornerPeriod_c (c : Int) (ts : List T4) (A : Option Addr) (cx : Nat) (L : List (List Int)) (B : Option Addr) (cr : Nat) (i : Int) (w : World) (hT : TileCells w A ts) (hl : ts.length ≤ 1000000000) (hR : RowsC w B L) (hn : L.length ≤ 1000000000) (hS : Short 1000000000 L) :
    Calls Tryz.prog 39 #[.agg #[.int .i64 c, .slice A ts.length cx], .slice B L.length cr, .int .i64 i] w fun e w' => e = .returned (.tuple #[.int .i64 (cpFrom c ts L i), .int .i64 (cpLen c ts L i), .int .i64 (cpCode c ts L i)]) ∧ Below w.heap.size w w' := by
  have HC := Lib.hid (fun (wq : World) (hq : Below w.heap.size w wq) => l09Tile_c c ts A cx L B cr i 0 0 wq (hT.below hq) hl (hR.below hq) hn hS)
  have HV : Hid (cpCode c ts L i = codeB (isSetB c ts) (stepB ts.length L i 0 0)) := rfl
  have HV1 : Hid (cpFrom c ts L i = if cpCode c ts L i = 0 then ((repOf (cornerAt L i)).2 : Int) else 0) := rfl
  have HV2 : Hid (cpLen c ts L i = if cpCode c ts L i = 0 then ((repOf (cornerAt L i)).1 : Int) - ((repOf (cornerAt L i)).2 : Int) else 0) := rfl
  have HR := Lib.hid hR
  clear hT hR
  by_cases h0 : codeB (isSetB c ts) (stepB ts.length L i 0 0) = 0
  · obtain ⟨hs, hst⟩ := codeB_zero h0
    obtain ⟨hB, ⟨i0, i1⟩, -⟩ := stepB_parts hst
    have h16 := (isSetB_small hs).2
    have hLn : L.length = ts.length := hB.1
    have HCo := Lib.hid (fun (wq : World) (hq : Below w.heap.size w wq) => l09Corners_c L B cr i L.length ts.length wq (HR.out.below hq) hB i0 i1 (by omega))
    have HP := Lib.hid (fun m h => pigeon ts.length (cornerAt L i) m (fun a _ => corner_in hB i0 i1 a) h)
    rw [h0] at HV HC
    have hc0 := HV.out
    have HF1 : Hid (cpFrom c ts L i = ((repOf (cornerAt L i)).2 : Int)) := by rw [Hid, HV1.out, if_pos hc0]
    have HF2 : Hid (cpLen c ts L i = ((repOf (cornerAt L i)).1 : Int) - ((repOf (cornerAt L i)).2 : Int)) := by rw [Hid, HV2.out, if_pos hc0]
    rw [hc0]
    have HLn := Lib.hid hLn
    clear hs hst hB i0 i1 h0 hc0 HV HV1 HV2 hS hLn
    go_enter Tryz.func39, Tryz.ntmps39
    go_wp2_with fail
    refine (HC.out _ (by (repeat (first | (with_reducible exact Below.refl _ _) | (with_reducible assumption) | (with_reducible refine below_al ?_) | (with_reducible refine below_dr ?_) | (with_reducible refine below_drN ?_) | (with_reducible refine below_set ?_ (by first | exact Nat.le_refl _ | (dsimp only; omega) | omega)) | (with_reducible refine below_tr (by with_reducible assumption) ?_))))).mono ?_
    rintro e w1 ⟨rfl, hb1⟩
    have Hw1 : Hid (Below w.heap.size w w1) := by (show Below _ _ _); (repeat (first | (with_reducible exact Below.refl _ _) | (with_reducible assumption) | (with_reducible refine below_al ?_) | (with_reducible refine below_dr ?_) | (with_reducible refine below_drN ?_) | (with_reducible refine below_set ?_ (by first | exact Nat.le_refl _ | (dsimp only; omega) | omega)) | (with_reducible refine below_tr (by with_reducible assumption) ?_)))
    clear hb1
    go_wp2_with fail
    refine (HCo.out _ Hw1.out).mono ?_
    rintro e w2 ⟨v, rfl, hO, hb2⟩
    obtain ⟨A3, cx3, rfl, hN, -⟩ := hO.shape
    have Hw2 : Hid (Below w.heap.size w w2) := by (have h1 := Hw1.out; show Below _ _ _); (repeat (first | (with_reducible exact Below.refl _ _) | (with_reducible assumption) | (with_reducible refine below_al ?_) | (with_reducible refine below_dr ?_) | (with_reducible refine below_drN ?_) | (with_reducible refine below_set ?_ (by first | exact Nat.le_refl _ | (dsimp only; omega) | omega)) | (with_reducible refine below_tr (by with_reducible assumption) ?_)))
    rw [corners_len]
    generalize hN1 : L.length + 1 = N1
    have HN1 := Lib.hid hN1
    have hN1b : N1 ≤ 1000000 := by have := HLn.out; omega
    clear hN1
    have HN := Lib.hid hN
    clear hO hN hb2
    go_wp2_with fail
    go_loopw [11] (fun x wr => ∃ m : Nat, x = .int .i64 m ∧ 1 ≤ m ∧ m ≤ N1 ∧ Hid (∀ a b, a < b → b < m → cornerAt L i a ≠ cornerAt L i b) ∧ Below w2.heap.size w2 wr) (fun x _ => N1 - (intOf x).toNat)
    case atStart => exact ⟨1, rfl, by omega, by have := HN1.out; omega, fun a b _ hb => by omega, Below.refl _ _⟩
    case round =>
      obtain ⟨m, rfl, m1, m2, Hd, hb⟩ := hrel
      have Hb := Lib.hid hb
      by_cases hmL : m < N1
      · have hcm := (HN.out.below hb).int m (by rw [corners_len, HN1.out]; exact hmL)
        obtain ⟨b, off, e1, hlt, c0⟩ := hcm
        rw [corners_get] at c0
        subst e1
        have C0 := Lib.hid (keepC c0)
        clear hb c0
        go_wp2_with fail
        go_loopw [12] (fun x wq => ∃ k : Nat, x = .int .i64 k ∧ k ≤ m ∧ Hid (∀ a, a < k → cornerAt L i a ≠ cornerAt L i m) ∧ Below wr.heap.size wr wq) (fun x _ => m - (intOf x).toNat)
        case atStart => exact ⟨0, rfl, by omega, fun a ha => by omega, Below.refl _ _⟩
        case round =>
          obtain ⟨k, rfl, hkm, Hk, hbq⟩ := hrel
          have Hbq := Lib.hid hbq
          by_cases hk : k < m
          · have hck := ((HN.out.below Hb.out).below hbq).int k (by rw [corners_len, HN1.out]; omega)
            obtain ⟨b', off', e1, hlt2, d0⟩ := hck
            injection e1 with e1
            injection e1 with e3 e4
            subst e3 e4
            rw [corners_get] at d0
            have f0 := keepC d0
            have f1 := keepC (C0.out _ hbq)
            have hk2 : k < N1 := by omega
            clear d0 hbq
            by_cases hE : cornerAt L i k = cornerAt L i m
            · have hr := repOf_eq (f := cornerAt L i) ⟨Hd.out, hk, hE⟩
              have HF3 : Hid (cpFrom c ts L i = (k : Int)) := by rw [Hid, HF1.out, hr]
              have HF4 : Hid (cpLen c ts L i = (m : Int) - k) := by rw [Hid, HF2.out, hr]
              have hE' : (cornerAt L i k == cornerAt L i m) = true := by simpa using hE
              clear hr hE
              generalize cornerAt L i k = x at *
              generalize cornerAt L i m = y at *
              go_wp2_with fail
              refine wp_region_add (fun w' => Below (wr).heap.size (wr) w') (by kernel_rfl) (by kernel_rfl) ((Below.refl _ _).drew) ?_
              repeat (first
                | (refine add_skip rfl (fun K' hK' => ?_); go_simp; refine hK' _ ?_; clear hK' K')
                | (refine add_do (v := ?_) rfl (fun w1 hb => ?_) (fun K' hK' => ?_); rotate_left
                   · go_simp
                     first
                     | (with_reducible exact rfl)
                     | (with_reducible exact ⟨rfl, hb⟩)
                     | exact rfl
                     | exact ⟨rfl, hb⟩
                   go_simp; refine hK' _ ?_; clear hK' K'))
              refine add_nil ?_
              intro wa hba
              go_wp2
              go_ret3
              exact ⟨ret_iii HF3.out.symm (by rw [HF4.out]) rfl, by have h2 := Hw2.out; have h3 := Hb.out; have h4 := Hbq.out; (repeat (first | (with_reducible exact Below.refl _ _) | (with_reducible assumption) | (with_reducible refine below_al ?_) | (with_reducible refine below_dr ?_) | (with_reducible refine below_drN ?_) | (with_reducible refine below_set ?_ (by first | exact Nat.le_refl _ | (dsimp only; omega) | omega)) | (with_reducible refine below_tr (by with_reducible assumption) ?_)))⟩
            · have hE' : (cornerAt L i k == cornerAt L i m) = false := by simpa using hE
              have HF : Hid (∀ a, a < k + 1 → cornerAt L i a ≠ cornerAt L i m) := fun a ha => by
                by_cases e : a = k
                · subst e; exact hE
                · exact Hk.out a (by omega)
              clear hE
              generalize hx : cornerAt L i k = x at *
              generalize hy : cornerAt L i m = y at *
              clear hx hy
              go_wp2_with fail
              refine wp_region_add (fun w' => Below (wr).heap.size (wr) w') (by kernel_rfl) (by kernel_rfl) ((Below.refl _ _).drew) ?_
              repeat (first
                | (refine add_skip rfl (fun K' hK' => ?_); go_simp; refine hK' _ ?_; clear hK' K')
                | (refine add_do (v := ?_) rfl (fun w1 hb => ?_) (fun K' hK' => ?_); rotate_left
                   · go_simp
                     first
                     | (with_reducible exact rfl)
                     | (with_reducible exact ⟨rfl, hb⟩)
                     | exact rfl
                     | exact ⟨rfl, hb⟩
                   go_simp; refine hK' _ ?_; clear hK' K'))
              refine add_nil ?_
              intro wa hba
              go_wp2
              go_roundw
              case rel => exact ⟨k + 1, by go_num, by omega, HF, Hbq.out.trans (hba.mono Hbq.out.size)⟩
              case measure => simp [intOf]; omega
          · have HF : Hid (∀ a b, a < b → b < m + 1 → cornerAt L i a ≠ cornerAt L i b) := fun a b hab hbm => by
              by_cases e : b = m
              · subst e; exact Hk.out a (by omega)
              · exact Hd.out a b hab (by omega)
            go_wp2
            go_roundw
            case rel => exact ⟨m + 1, by go_num, by omega, by omega, HF, Hb.out.trans (Hbq.out.mono Hb.out.size)⟩
            case measure => simp [intOf]; omega
      · exfalso
        have := HP.out m Hd.out
        have := HLn.out
        have := HN1.out
        omega
  · have hcc := codeB_ne h0
    have HF1 : Hid (cpFrom c ts L i = 0) := by rw [Hid, HV1.out, HV.out, if_neg h0]
    have HF2 : Hid (cpLen c ts L i = 0) := by rw [Hid, HV2.out, HV.out, if_neg h0]
    rw [HV.out]
    generalize codeB (isSetB c ts) (stepB ts.length L i 0 0) = d at *
    have hne : (d != 0) = true := by simpa using h0
    clear hcc h0
    go_enter Tryz.func39, Tryz.ntmps39
    go_wp2_with fail
    refine (HC.out _ (by (repeat (first | (with_reducible exact Below.refl _ _) | (with_reducible assumption) | (with_reducible refine below_al ?_) | (with_reducible refine below_dr ?_) | (with_reducible refine below_drN ?_) | (with_reducible refine below_set ?_ (by first | exact Nat.le_refl _ | (dsimp only; omega) | omega)) | (with_reducible refine below_tr (by with_reducible assumption) ?_))))).mono ?_
    rintro e w1 ⟨rfl, hb1⟩
    have Hw1 : Hid (Below w.heap.size w w1) := by (show Below _ _ _); (repeat (first | (with_reducible exact Below.refl _ _) | (with_reducible assumption) | (with_reducible refine below_al ?_) | (with_reducible refine below_dr ?_) | (with_reducible refine below_drN ?_) | (with_reducible refine below_set ?_ (by first | exact Nat.le_refl _ | (dsimp only; omega) | omega)) | (with_reducible refine below_tr (by with_reducible assumption) ?_)))
    clear hb1
    go_wp2
    go_ret3
    exact ⟨ret_iii HF1.out.symm HF2.out.symm rfl, Hw1.out⟩

end Go.Proofs.YtkgnejhflnekaaaGreat
