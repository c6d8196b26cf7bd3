/- Contracts and lemmas for the statements of this seat, written for this claim; each theorem states its own conditions. -/
import Derived.Test.YtkgnejhflnekaaaFrBy
import Derived.Test.YtkgnejhflnekaaaFrB
set_option linter.unusedVariables false
set_option linter.unusedSimpArgs false
namespace Go.Proofs.Ytkgnejhflnekaaa
open Go.RowKit
set_option maxRecDepth 100000 in
set_option maxHeartbeats 1000000 in
theorem stepsCode1_c (c : Int) (A : Option Addr) (n cx : Nat) (i k most : Int) (b1 b2 b3 b4 : Nat) (w : World) (hl : n ≤ 1000000000)
    (f0 : w.cell? ⟨b1, 0, none⟩ = some (.int .i64 c)) (f1 : w.cell? ⟨b1, 1, none⟩ = some (.slice A n cx)) (f2 : w.cell? ⟨b2, 0, none⟩ = some (.int .i64 i)) (f3 : w.cell? ⟨b3, 0, none⟩ = some (.int .i64 k)) (f4 : w.cell? ⟨b4, 0, none⟩ = some (.int .i64 most)) :
    Calls Try.prog 70 #[.pointer (some ⟨b1, 0, none⟩), .pointer (some ⟨b2, 0, none⟩), .pointer (some ⟨b3, 0, none⟩), .pointer (some ⟨b4, 0, none⟩)] w fun e w' => e = .returned (.bool (inR 0 ((n : Int) - 1) i && inR 0 most k)) ∧ Below w.heap.size w w' := by
  have HR := Lib.hid (isNumber_c c A n cx i w hl)
  have HF := Lib.hid (fun w => within_c k 0 most w)
  have G3 := Lib.hid (keepC f3)
  have G4 := Lib.hid (keepC f4)
  generalize inR 0 ((n : Int) - 1) i = r at *
  generalize inR 0 most k = s at *
  cases r
  · go_enter Try.func70, Try.ntmps70
    go_wp2_with fail
    refine HR.out.mono ?_
    rintro e w1 ⟨rfl, hb1⟩
    clear f3 f4
    go_wp2
    go_ret
    exact ⟨rfl, by (repeat (first | (with_reducible exact Below.refl _ _) | (with_reducible assumption) | (with_reducible refine below_al ?_) | (with_reducible refine below_dr ?_) | (with_reducible refine below_drN ?_) | (with_reducible refine below_set ?_ (by first | exact Nat.le_refl _ | (dsimp only; omega) | omega)) | (with_reducible refine below_tr (by with_reducible assumption) ?_)))⟩
  · go_enter Try.func70, Try.ntmps70
    go_wp2_with fail
    refine HR.out.mono ?_
    rintro e w1 ⟨rfl, hb1⟩
    have f3 := G3.out _ hb1
    have f4 := G4.out _ hb1
    go_wp2_with fail
    refine (HF.out _).mono ?_
    rintro e w2 ⟨rfl, rfl⟩
    go_wp2
    go_ret
    exact ⟨by first | rfl | simp, by (repeat (first | (with_reducible exact Below.refl _ _) | (with_reducible assumption) | (with_reducible refine below_al ?_) | (with_reducible refine below_dr ?_) | (with_reducible refine below_drN ?_) | (with_reducible refine below_set ?_ (by first | exact Nat.le_refl _ | (dsimp only; omega) | omega)) | (with_reducible refine below_tr (by with_reducible assumption) ?_)))⟩
def stepB (n : Nat) (L : List (List Int)) (i k most : Int) : Bool := areBlocksB n L && (inR 0 ((n : Int) - 1) i && inR 0 most k)
set_option maxRecDepth 100000 in
set_option maxHeartbeats 1000000 in
theorem stepsCode_c (c : Int) (ts : List T4) (A : Option Addr) (cx : Nat) (L : List (List Int)) (B : Option Addr) (cr : Nat) (i k most : Int) (w : World) (hT : TileCells w A ts) (hl : ts.length ≤ 1000000000) (hR : RowsC w B L) (hn : L.length ≤ 1000000000) (hS : Short 1000000000 L) :
    Calls Try.prog 47 #[.agg #[.int .i64 c, .slice A ts.length cx], .slice B L.length cr, .int .i64 i, .int .i64 k, .int .i64 most] w fun e w' => e = .returned (.int .i64 (codeB (isSetB c ts) (stepB ts.length L i k most))) ∧ Below w.heap.size w w' := by
  have HC := Lib.hid (fun (wq : World) (hwq : Below w.heap.size w wq) (b1 b2 b3 b4 : Nat) h0 h1 h2 h3 h4 => blocksCode_c c ts A cx L B cr 70 #[.pointer (some ⟨b1, 0, none⟩), .pointer (some ⟨b2, 0, none⟩), .pointer (some ⟨b3, 0, none⟩), .pointer (some ⟨b4, 0, none⟩)]
    (inR 0 ((ts.length : Int) - 1) i && inR 0 most k) wq (fun _ _ => rfl) (hT.below hwq) hl (hR.below hwq) hn hS
    (fun _ _ w1 hb => stepsCode1_c c A ts.length cx i k most b1 b2 b3 b4 w1 hl (keepC h0 _ hb) (keepC h1 _ hb) (keepC h2 _ hb) (keepC h3 _ hb) (keepC h4 _ hb)))
  have HV : Hid (stepB ts.length L i k most = (areBlocksB ts.length L && (inR 0 ((ts.length : Int) - 1) i && inR 0 most k))) := rfl
  clear hT hR
  go_enter Try.func47, Try.ntmps47
  go_wp2_with fail
  refine (HC.out _ (by (repeat (first | (with_reducible exact Below.refl _ _) | (with_reducible assumption) | (with_reducible refine below_al ?_) | (with_reducible refine below_dr ?_) | (with_reducible refine below_drN ?_) | (with_reducible refine below_set ?_ (by first | exact Nat.le_refl _ | (dsimp only; omega) | omega)) | (with_reducible refine below_tr (by with_reducible assumption) ?_)))) _ _ _ _ ?_ ?_ ?_ ?_ ?_).mono ?_
  · (repeat (first | (exact cell_al _ _ _ _ _ _ (by simp) rfl) | (refine cell_alloc_old _ _ _ _ _ ?_)))
  · (repeat (first | (exact cell_al _ _ _ _ _ _ (by simp) rfl) | (refine cell_alloc_old _ _ _ _ _ ?_)))
  · (repeat (first | (exact cell_al _ _ _ _ _ _ (by simp) rfl) | (refine cell_alloc_old _ _ _ _ _ ?_)))
  · (repeat (first | (exact cell_al _ _ _ _ _ _ (by simp) rfl) | (refine cell_alloc_old _ _ _ _ _ ?_)))
  · (repeat (first | (exact cell_al _ _ _ _ _ _ (by simp) rfl) | (refine cell_alloc_old _ _ _ _ _ ?_)))
  rintro e w1 ⟨rfl, hb1⟩
  go_wp2
  go_ret
  exact ⟨ret_int (by rw [HV.out]), by (repeat (first | (with_reducible exact Below.refl _ _) | (with_reducible assumption) | (with_reducible refine below_al ?_) | (with_reducible refine below_dr ?_) | (with_reducible refine below_drN ?_) | (with_reducible refine below_set ?_ (by first | exact Nat.le_refl _ | (dsimp only; omega) | omega)) | (with_reducible refine below_tr (by with_reducible assumption) ?_)))⟩
set_option maxRecDepth 100000 in
set_option maxHeartbeats 1000000 in
theorem l09Tile_c (c : Int) (ts : List T4) (A : Option Addr) (cx : Nat) (L : List (List Int)) (B : Option Addr) (cr : Nat) (i k most : Int) (w : World) (hT : TileCells w A ts) (hl : ts.length ≤ 1000000000) (hR : RowsC w B L) (hn : L.length ≤ 1000000000) (hS : Short 1000000000 L) :
    Calls Try.prog 48 #[.agg #[.int .i64 c, .slice A ts.length cx], .slice B L.length cr, .int .i64 i, .int .i64 k, .int .i64 most] w fun e w' => e = .returned (.int .i64 (codeB (isSetB c ts) (stepB ts.length L i k most))) ∧ Below w.heap.size w w' := by
  have HC := Lib.hid (fun (wq : World) (hq : Below w.heap.size w wq) => l09Code_c c ts A cx L B cr wq (hT.below hq) hl (hR.below hq) hn hS)
  have HV : Hid (stepB ts.length L i k most = (areBlocksB ts.length L && (inR 0 ((ts.length : Int) - 1) i && inR 0 most k))) := rfl
  have HB := Lib.hid (areBlocksB_iff (n := ts.length) (L := L))
  have qL : IntKind.i64.wrap ((L.length : Int) - 1) = (L.length : Int) - 1 := IntWalk.i64_in _ (by omega)
  clear hT hR
  generalize isSetB c ts = s at *
  generalize hab : areBlocksB ts.length L = a at *
  clear hab
  cases s
  · rw [show codeB false a = 1 from rfl] at HC
    rw [show codeB false (stepB ts.length L i k most) = 1 from rfl]
    go_enter Try.func48, Try.ntmps48
    go_wp2_with fail
    refine (HC.out _ (by (repeat (first | (with_reducible exact Below.refl _ _) | (with_reducible assumption) | (with_reducible refine below_al ?_) | (with_reducible refine below_dr ?_) | (with_reducible refine below_drN ?_) | (with_reducible refine below_set ?_ (by first | exact Nat.le_refl _ | (dsimp only; omega) | omega)) | (with_reducible refine below_tr (by with_reducible assumption) ?_))))).mono ?_
    rintro e w1 ⟨rfl, hb1⟩
    have Hw1 : Hid (Below w.heap.size w w1) := by (show Below _ _ _); (repeat (first | (with_reducible exact Below.refl _ _) | (with_reducible assumption) | (with_reducible refine below_al ?_) | (with_reducible refine below_dr ?_) | (with_reducible refine below_drN ?_) | (with_reducible refine below_set ?_ (by first | exact Nat.le_refl _ | (dsimp only; omega) | omega)) | (with_reducible refine below_tr (by with_reducible assumption) ?_)))
    clear hb1
    go_wp2
    go_ret
    exact ⟨rfl, Hw1.out⟩
  · cases a
    · rw [show codeB true false = 2 from rfl] at HC
      have HF : Hid (stepB ts.length L i k most = false) := HV.out
      go_enter Try.func48, Try.ntmps48
      go_wp2_with fail
      refine (HC.out _ (by (repeat (first | (with_reducible exact Below.refl _ _) | (with_reducible assumption) | (with_reducible refine below_al ?_) | (with_reducible refine below_dr ?_) | (with_reducible refine below_drN ?_) | (with_reducible refine below_set ?_ (by first | exact Nat.le_refl _ | (dsimp only; omega) | omega)) | (with_reducible refine below_tr (by with_reducible assumption) ?_))))).mono ?_
      rintro e w1 ⟨rfl, hb1⟩
      have Hw1 : Hid (Below w.heap.size w w1) := by (show Below _ _ _); (repeat (first | (with_reducible exact Below.refl _ _) | (with_reducible assumption) | (with_reducible refine below_al ?_) | (with_reducible refine below_dr ?_) | (with_reducible refine below_drN ?_) | (with_reducible refine below_set ?_ (by first | exact Nat.le_refl _ | (dsimp only; omega) | omega)) | (with_reducible refine below_tr (by with_reducible assumption) ?_)))
      clear hb1
      go_wp2
      go_ret
      exact ⟨by rw [HF.out]; rfl, Hw1.out⟩
    · rw [show codeB true true = 0 from rfl] at HC
      have hLn := (HB.out rfl).1
      have H1 := Lib.hid (fun w => l01In_c i 0 ((L.length : Int) - 1) w)
      rw [show inR 0 ((L.length : Int) - 1) i = inR 0 ((ts.length : Int) - 1) i by rw [hLn]] at H1
      have H2 := Lib.hid (fun w => l01In_c k 0 most w)
      generalize inR 0 ((ts.length : Int) - 1) i = x at *
      generalize inR 0 most k = y at *
      clear hLn HB
      cases x
      · have HF : Hid (stepB ts.length L i k most = false) := HV.out
        go_enter Try.func48, Try.ntmps48
        go_wp2_with fail
        refine (HC.out _ (by (repeat (first | (with_reducible exact Below.refl _ _) | (with_reducible assumption) | (with_reducible refine below_al ?_) | (with_reducible refine below_dr ?_) | (with_reducible refine below_drN ?_) | (with_reducible refine below_set ?_ (by first | exact Nat.le_refl _ | (dsimp only; omega) | omega)) | (with_reducible refine below_tr (by with_reducible assumption) ?_))))).mono ?_
        rintro e w1 ⟨rfl, hb1⟩
        have Hw1 : Hid (Below w.heap.size w w1) := by (show Below _ _ _); (repeat (first | (with_reducible exact Below.refl _ _) | (with_reducible assumption) | (with_reducible refine below_al ?_) | (with_reducible refine below_dr ?_) | (with_reducible refine below_drN ?_) | (with_reducible refine below_set ?_ (by first | exact Nat.le_refl _ | (dsimp only; omega) | omega)) | (with_reducible refine below_tr (by with_reducible assumption) ?_)))
        clear hb1
        go_wp2_with fail
        refine (H1.out _).mono ?_
        rintro e w3 ⟨rfl, rfl⟩
        go_wp2
        go_ret
        exact ⟨by rw [HF.out]; rfl, Hw1.out⟩
      · cases y
        all_goals
          have HF := Lib.hid HV.out
          go_enter Try.func48, Try.ntmps48
          go_wp2_with fail
          refine (HC.out _ (by (repeat (first | (with_reducible exact Below.refl _ _) | (with_reducible assumption) | (with_reducible refine below_al ?_) | (with_reducible refine below_dr ?_) | (with_reducible refine below_drN ?_) | (with_reducible refine below_set ?_ (by first | exact Nat.le_refl _ | (dsimp only; omega) | omega)) | (with_reducible refine below_tr (by with_reducible assumption) ?_))))).mono ?_
          rintro e w1 ⟨rfl, hb1⟩
          have Hw1 : Hid (Below w.heap.size w w1) := by (show Below _ _ _); (repeat (first | (with_reducible exact Below.refl _ _) | (with_reducible assumption) | (with_reducible refine below_al ?_) | (with_reducible refine below_dr ?_) | (with_reducible refine below_drN ?_) | (with_reducible refine below_set ?_ (by first | exact Nat.le_refl _ | (dsimp only; omega) | omega)) | (with_reducible refine below_tr (by with_reducible assumption) ?_)))
          clear hb1
          go_wp2_with fail
          refine (H1.out _).mono ?_
          rintro e w3 ⟨rfl, rfl⟩
          go_wp2_with fail
          refine (H2.out _).mono ?_
          rintro e w3 ⟨rfl, rfl⟩
          go_wp2
          go_ret
          exact ⟨by rw [HF.out]; rfl, Hw1.out⟩
/-- the corners, one after the other -/
def cornerAt (L : List (List Int)) (i : Int) : Nat → Int
  | 0 => i
  | k + 1 => (L.getD (cornerAt L i k).toNat []).getD 0 0
def corners (L : List (List Int)) (i : Int) (n : Nat) : List Int := (List.range n).map (cornerAt L i)
theorem corners_succ (L : List (List Int)) (i : Int) (n : Nat) : corners L i (n + 1) = corners L i n ++ [cornerAt L i n] := by simp [corners, List.range_succ]
theorem corners_len (L : List (List Int)) (i : Int) (n : Nat) : (corners L i n).length = n := by simp [corners]
theorem corners_get (L : List (List Int)) (i : Int) (n j : Nat) (h : j < (corners L i n).length) : (corners L i n)[j] = cornerAt L i j := by simp [corners]
theorem corner_in {n : Nat} {L : List (List Int)} (hB : Blocks n L) {i : Int} (h0 : 0 ≤ i) (h1 : i < n) : ∀ k, 0 ≤ cornerAt L i k ∧ cornerAt L i k < n
  | 0 => ⟨h0, h1⟩
  | k + 1 => by
    obtain ⟨a, b⟩ := corner_in hB h0 h1 k
    obtain ⟨m, hm⟩ := Int.eq_ofNat_of_zero_le a
    have hmL : m < L.length := by rw [hB.1]; omega
    obtain ⟨hl, hr⟩ := hB.2 m hmL
    have h0 : 0 < L[m].length := by omega
    have := hr 0 h0
    unfold cornerAt
    rw [hm]
    simp only [Int.toNat_natCast]
    rw [show L.getD m [] = L[m] by simp [hmL], show L[m].getD 0 0 = L[m][0] by simp [h0]]
    exact this
theorem corner_step {n : Nat} {L : List (List Int)} (hB : Blocks n L) {i : Int} (h0 : 0 ≤ i) (h1 : i < n) (k : Nat) : ∃ m, ∃ h : m < L.length, ∃ h4 : 0 < L[m].length, cornerAt L i k = (m : Int) ∧ cornerAt L i (k + 1) = L[m][0] := by
  obtain ⟨a, b⟩ := corner_in hB h0 h1 k
  obtain ⟨m, hm⟩ := Int.eq_ofNat_of_zero_le a
  have hmL : m < L.length := by rw [hB.1]; omega
  obtain ⟨hl, hr⟩ := hB.2 m hmL
  have h0 : 0 < L[m].length := by omega
  refine ⟨m, hmL, h0, hm, ?_⟩
  show (L.getD (cornerAt L i k).toNat []).getD 0 0 = _
  rw [hm]
  simp [hmL, h0]
/-- n is the first place whose corner stood ahead, at k -/
def Rep (f : Nat → Int) (n k : Nat) : Prop := (∀ a b, a < b → b < n → f a ≠ f b) ∧ k < n ∧ f k = f n
theorem Rep.uniq {f : Nat → Int} {n k n' k' : Nat} (h : Rep f n k) (h' : Rep f n' k') : n = n' ∧ k = k' := by
  obtain ⟨d, l, e⟩ := h
  obtain ⟨d', l', e'⟩ := h'
  have hn : n = n' := by
    rcases Nat.lt_trichotomy n n' with hh | hh | hh
    · exact absurd e (d' k n l hh)
    · exact hh
    · exact absurd e' (d k' n' l' hh)
  subst hn
  refine ⟨rfl, ?_⟩
  rcases Nat.lt_trichotomy k k' with hh | hh | hh
  · exact absurd (e.trans e'.symm) (d k k' hh l')
  · exact hh
  · exact absurd (e'.trans e.symm) (d k' k hh l)
noncomputable def repOf (f : Nat → Int) : Nat × Nat := open Classical in if h : ∃ p : Nat × Nat, Rep f p.1 p.2 then h.choose else (0, 0)
theorem repOf_eq {f : Nat → Int} {n k : Nat} (h : Rep f n k) : repOf f = (n, k) := by
  have he : ∃ p : Nat × Nat, Rep f p.1 p.2 := ⟨(n, k), h⟩
  unfold repOf
  rw [dif_pos he]
  obtain ⟨e1, e2⟩ := he.choose_spec.uniq h
  exact Prod.ext e1 e2
def cpCode (c : Int) (ts : List T4) (L : List (List Int)) (i : Int) : Int := codeB (isSetB c ts) (stepB ts.length L i 0 0)
noncomputable def cpFrom (c : Int) (ts : List T4) (L : List (List Int)) (i : Int) : Int := if cpCode c ts L i = 0 then ((repOf (cornerAt L i)).2 : Int) else 0
noncomputable def cpLen (c : Int) (ts : List T4) (L : List (List Int)) (i : Int) : Int := if cpCode c ts L i = 0 then ((repOf (cornerAt L i)).1 : Int) - ((repOf (cornerAt L i)).2 : Int) else 0
theorem codeB_ne {s b : Bool} (h : ¬ codeB s b = 0) : codeB s b = 1 ∨ codeB s b = 2 := by cases s <;> cases b <;> simp [codeB] at *
theorem codeB_zero {s b : Bool} (h : codeB s b = 0) : s = true ∧ b = true := by cases s <;> cases b <;> simp [codeB] at *
theorem stepB_parts {n : Nat} {L : List (List Int)} {i k most : Int} (h : stepB n L i k most = true) : Blocks n L ∧ (0 ≤ i ∧ i < n) ∧ 0 ≤ k ∧ k ≤ most := by
  unfold stepB at h
  rw [Bool.and_eq_true, Bool.and_eq_true, inR_iff, inR_iff] at h
  exact ⟨areBlocksB_iff h.1, ⟨h.2.1.1, by omega⟩, h.2.2⟩
theorem ret_iii {a b c d e f : Int} (h : a = b) (h' : c = d) (h2 : e = f) : Ending.returned (.tuple #[.int .i64 a, .int .i64 c, .int .i64 e]) = .returned (.tuple #[.int .i64 b, .int .i64 d, .int .i64 f]) := by rw [h, h', h2]
end Go.Proofs.Ytkgnejhflnekaaa
