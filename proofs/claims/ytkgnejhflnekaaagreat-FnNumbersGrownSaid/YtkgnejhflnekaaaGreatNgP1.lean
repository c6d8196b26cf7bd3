/- Contracts and lemmas for the statements of this seat, written for this claim; each theorem states its own conditions. -/
import Derived.Laws.BitsLemmas
import Derived.Test.YtkgnejhflnekaaaGreatNgPr
import Derived.Test.YtkgnejhflnekaaaGreatNgBy
import Derived.Test.YtkgnejhflnekaaaGreatNgAp
import Derived.Test.YtkgnejhflnekaaaGreatNgMk
set_option linter.unusedVariables false
set_option linter.unusedSimpArgs false
namespace Go.Proofs.YtkgnejhflnekaaaGreat
open Go.RowKit
theorem sh1 (k : Nat) (h : k ≤ 60) (yk : IntKind) : Op.shift .shl .i64 1 yk (k : Int) = (pure (.int .i64 ((2 ^ k : Nat) : Int)) : Sem Value) := by
  rw [shift_shl .i64 yk 1 k (by omega) (by simp [IntKind.bits]; omega), Int.toNat_natCast, Int.one_mul]
  have h1 : 2 ^ k ≤ 2 ^ 60 := Nat.pow_le_pow_right (by decide) h
  have h2 : ((2 : Int) ^ k) = ((2 ^ k : Nat) : Int) := by simp
  have h3 : (2 ^ 60 : Nat) = 1152921504606846976 := by decide
  rw [h2]
  generalize 2 ^ k = p at *
  rw [IntWalk.i64_in _ (by omega)]
theorem wr2 (k : Nat) (h : k ≤ 60) : IntKind.i64.wrap ((2 : Int) ^ k) = ((2 ^ k : Nat) : Int) := by
  have h1 : 2 ^ k ≤ 2 ^ 60 := Nat.pow_le_pow_right (by decide) h
  have h2 : ((2 : Int) ^ k) = ((2 ^ k : Nat) : Int) := by simp
  have h3 : (2 ^ 60 : Nat) = 1152921504606846976 := by decide
  rw [h2]
  generalize 2 ^ k = p at *
  rw [IntWalk.i64_in _ (by omega)]
theorem sh2 (v k : Nat) (h : k ≤ 60) : Op.shift .shr .i64 (v : Int) .u64 (k : Int) = (pure (.int .i64 ((v >>> k : Nat) : Int)) : Sem Value) := by
  rw [shift_shr .i64 .u64 v k (by omega) (by simp [IntKind.bits]; omega), Int.toNat_natCast, Nat.shiftRight_eq_div_pow]
  simp
theorem i64_nat60 (n : Int) (h0 : 0 ≤ n) (h1 : n < 2 ^ 60) : IntKind.i64.wrap n = n := IntWalk.i64_in _ (by omega)
theorem or_nat (a b : Nat) (ha : a < 2 ^ 60) (hb : b < 2 ^ 60) : bits .or .i64 (a : Int) (b : Int) = ((a ||| b : Nat) : Int) := (bits_nat .i64 60 (by decide) i64_nat60 a b ha hb).2
theorem and_one (v k : Nat) (hv : v < 2 ^ 60) : (bits .and .i64 ((v >>> k : Nat) : Int) 1 == 1) = v.testBit k := by
  have h1 : v >>> k < 2 ^ 60 := Nat.lt_of_le_of_lt (by rw [Nat.shiftRight_eq_div_pow]; exact Nat.div_le_self ..) hv
  rw [show (1 : Int) = ((1 : Nat) : Int) from rfl, (bits_nat .i64 60 (by decide) i64_nat60 _ 1 h1 (by decide)).1]
  unfold Nat.testBit
  rw [Nat.and_comm 1]
  have : v >>> k &&& 1 = 0 ∨ v >>> k &&& 1 = 1 := by rw [Nat.and_one_is_mod]; omega
  rcases this with h | h <;> rw [h] <;> rfl
theorem and_one2 (v k : Nat) (hv : v < 2 ^ 60) : (bits .and .i64 ((v : Int) / 2 ^ k) 1 == 1) = v.testBit k := by
  rw [← and_one v k hv, Nat.shiftRight_eq_div_pow]; simp
theorem ne_blk2 {a b n c : Nat} (h : a ≠ b) : (Value.slice (some ⟨a, 0, none⟩) n c).ownBlock ≠ some b := fun e => h (Option.some.inj e)
def ni (S : List Nat) : List Int := S.map fun x : Nat => (x : Int)
theorem ni_len (S : List Nat) : (ni S).length = S.length := by simp [ni]
theorem ni_app (S : List Nat) (x : Nat) : ni (S ++ [x]) = ni S ++ [(x : Int)] := by simp [ni]
theorem ni_get (S : List Nat) (i : Nat) (h : i < (ni S).length) (h' : i < S.length) : (ni S)[i] = ((S.getD i 0 : Nat) : Int) := by simp [ni, h']
theorem Blocks.ok {n : Nat} {L : List (List Int)} (h : Blocks n L) : BlkOk L := by
  intro r hr
  obtain ⟨k, hk, rfl⟩ := List.getElem_of_mem hr
  obtain ⟨h4, hj⟩ := h.2 k hk
  refine ⟨h4, fun x hx => ?_⟩
  obtain ⟨j, hj', rfl⟩ := List.getElem_of_mem hx
  have := hj j hj'
  rw [h.1]; exact this
noncomputable def primV (c : Int) (ts : List T4) (L : List (List Int)) : Bool := isSetB c ts && areBlocksB ts.length L && primB L
theorem pows_lt {n i : Nat} (hn : n ≤ 16) (hi : i < n) : 2 ^ i < 2 ^ 60 := Nat.pow_lt_pow_right (by decide) (by omega)
theorem lt60 {v n : Nat} (hn : n ≤ 16) (h : v < 2 ^ n) : v < 2 ^ 60 := Nat.lt_of_lt_of_le h (Nat.pow_le_pow_right (by decide) (by omega))
theorem or_take {L : List (List Int)} (hB : BlkOk L) (hn : L.length ≤ 16) (s : Nat) {b : List Int} (hb : ∀ x ∈ b, 0 ≤ x ∧ x < (L.length : Int)) : rowI (setsI L s) b < 2 ^ L.length := by
  refine bits_lt fun y h => ?_
  rw [rowI, foldl_or_bit] at h
  simp only [Nat.zero_testBit, Bool.false_or, List.any_eq_true] at h
  obtain ⟨k, hk, hx⟩ := h
  have := hb k hk
  exact pa_in (fun i k h => (Eb_in hB i k h).2) s k.toNat y (by omega) ((setsI_bit hB s k.toNat y (by omega)).1 hx)
theorem rowI_take (S : List Nat) (b : List Int) (j : Nat) (hj : j < b.length) : rowI S (b.take (j + 1)) = rowI S (b.take j) ||| S.getD b[j].toNat 0 := by
  unfold rowI; rw [List.take_succ_eq_append_getElem hj, List.foldl_append]; rfl
theorem ni_any {S : List Nat} {Q : Nat} : (ni S).any (fun x => x != (Q : Int)) = false ↔ ∀ i, i < S.length → S.getD i 0 = Q := by
  rw [List.any_eq_false]
  constructor
  · intro h i hi
    have := h ((S[i] : Nat) : Int) (by unfold ni; exact List.mem_map.2 ⟨S[i], List.getElem_mem hi, rfl⟩)
    have h2 : ((S[i] : Nat) : Int) = (Q : Int) := by simpa using this
    simp [hi]; omega
  · intro h x hx
    obtain ⟨y, hy, rfl⟩ := List.mem_map.1 hx
    obtain ⟨i, hi, rfl⟩ := List.getElem_of_mem hy
    have := h i hi
    simp [hi] at this
    simp [this]
set_option maxRecDepth 100000 in
set_option maxHeartbeats 1000000 in
theorem prim1_c (x all : Int) (b : Nat) (w : World) (f0 : w.cell? ⟨b, 0, none⟩ = some (.int .i64 all)) :
    Calls Tryz.prog 111 #[.int .i64 x, .pointer (some ⟨b, 0, none⟩)] w fun e w' => e = .returned (.bool (x != all)) ∧ Below w.heap.size w w' := by
  go_enter Tryz.func111, Tryz.ntmps111
  go_wp2
  go_ret
  exact ⟨rfl, Below.refl _ _⟩
set_option maxRecDepth 100000 in
set_option maxHeartbeats 1000000 in
theorem implIsPrimitive_c (c : Int) (ts : List T4) (A : Option Addr) (cx : Nat) (L : List (List Int)) (B : Option Addr) (cr : Nat) (w : World) (hT : TileCells w A ts) (hl : ts.length ≤ 1000000000) (hR : RowsC w B L) (hn : L.length ≤ 1000000000) (hS : Short 1000000000 L) :
    Calls Tryz.prog 41 #[.agg #[.int .i64 c, .slice A ts.length cx], .slice B L.length cr] w fun e w' => e = .returned (.tuple #[.bool (primV c ts L), .int .i64 (codeB (isSetB c ts) (areBlocksB ts.length L))]) ∧ Below w.heap.size w w' := by
  have HC := Lib.hid (fun (wq : World) (hq : Below w.heap.size w wq) => blocksCode_c c ts A cx L B cr 109 #[] true wq (fun _ _ => rfl) (hT.below hq) hl (hR.below hq) hn hS (fun _ _ w1 _ => always_c w1))
  rw [Bool.and_true] at HC
  have HR := Lib.hid hR
  have HV : Hid (primV c ts L = (isSetB c ts && areBlocksB ts.length L && primB L)) := rfl
  have h16 := fun h => (isSetB_small (c := c) (ts := ts) h).2
  have hbk := fun h => areBlocksB_iff (n := ts.length) (L := L) h
  clear hT hR
  generalize isSetB c ts = s at *
  generalize areBlocksB ts.length L = a at *
  cases s
  · have HF := Lib.hid HV.out
    clear h16 hbk
    go_enter Tryz.func41, Tryz.ntmps41
    go_wp2_with fail
    refine (HC.out _ (by (repeat (first | (with_reducible exact Below.refl _ _) | (with_reducible assumption) | (with_reducible refine below_al ?_) | (with_reducible refine below_dr ?_) | (with_reducible refine below_drN ?_) | (with_reducible refine below_set ?_ (by first | exact Nat.le_refl _ | (dsimp only; omega) | omega)) | (with_reducible refine below_tr (by with_reducible assumption) ?_))))).mono ?_
    rintro e w1 ⟨rfl, hb1⟩
    have Hw1 : Hid (Below w.heap.size w w1) := by (show Below _ _ _); (repeat (first | (with_reducible exact Below.refl _ _) | (with_reducible assumption) | (with_reducible refine below_al ?_) | (with_reducible refine below_dr ?_) | (with_reducible refine below_drN ?_) | (with_reducible refine below_set ?_ (by first | exact Nat.le_refl _ | (dsimp only; omega) | omega)) | (with_reducible refine below_tr (by with_reducible assumption) ?_)))
    clear hb1
    go_wp2
    go_ret2
    exact ⟨ret_bc HF.out.symm rfl, Hw1.out⟩
  · cases a
    · have HF := Lib.hid HV.out
      clear h16 hbk
      go_enter Tryz.func41, Tryz.ntmps41
      go_wp2_with fail
      refine (HC.out _ (by (repeat (first | (with_reducible exact Below.refl _ _) | (with_reducible assumption) | (with_reducible refine below_al ?_) | (with_reducible refine below_dr ?_) | (with_reducible refine below_drN ?_) | (with_reducible refine below_set ?_ (by first | exact Nat.le_refl _ | (dsimp only; omega) | omega)) | (with_reducible refine below_tr (by with_reducible assumption) ?_))))).mono ?_
      rintro e w1 ⟨rfl, hb1⟩
      have Hw1 : Hid (Below w.heap.size w w1) := by (show Below _ _ _); (repeat (first | (with_reducible exact Below.refl _ _) | (with_reducible assumption) | (with_reducible refine below_al ?_) | (with_reducible refine below_dr ?_) | (with_reducible refine below_drN ?_) | (with_reducible refine below_set ?_ (by first | exact Nat.le_refl _ | (dsimp only; omega) | omega)) | (with_reducible refine below_tr (by with_reducible assumption) ?_)))
      clear hb1
      go_wp2
      go_ret2
      exact ⟨ret_bc HF.out.symm rfl, Hw1.out⟩
    · have HV2 : Hid (primV c ts L = primB L) := HV.out
      rw [show codeB true true = 0 from rfl] at HC ⊢
      have hB := hbk rfl
      have hn16 : L.length ≤ 16 := by rw [hB.1]; exact h16 rfl
      have HBk := Lib.hid hB.ok
      obtain ⟨n, hn'⟩ : ∃ n, L.length = n := ⟨_, rfl⟩
      have HN := Lib.hid hn'
      rw [hn'] at hn16 hn
      have hp : 2 ^ n ≤ 2 ^ 16 := Nat.pow_le_pow_right (by decide) hn16
      have hp1 := Nat.two_pow_pos n
      have hwn := wr2 n (by omega)
      obtain ⟨P, hP⟩ : ∃ P : Nat, 2 ^ n = P := ⟨_, rfl⟩
      rw [hP] at hp hp1 hwn
      obtain ⟨Q, hQ⟩ : ∃ Q : Nat, Q = P - 1 := ⟨_, rfl⟩
      have hw1 : IntKind.i64.wrap ((P : Int) - 1) = (Q : Int) := by rw [IntWalk.i64_in _ (by omega)]; omega
      have HQ := Lib.hid (show Q = 2 ^ L.length - 1 by rw [HN.out, hP]; exact hQ)
      have HP := Lib.hid hP
      clear h16 hbk hB hP hQ
      rw [hn'] at HC ⊢
      clear hn'
      go_enter Tryz.func41, Tryz.ntmps41
      go_wp2_with fail
      refine (HC.out _ (by (repeat (first | (with_reducible exact Below.refl _ _) | (with_reducible assumption) | (with_reducible refine below_al ?_) | (with_reducible refine below_dr ?_) | (with_reducible refine below_drN ?_) | (with_reducible refine below_set ?_ (by first | exact Nat.le_refl _ | (dsimp only; omega) | omega)) | (with_reducible refine below_tr (by with_reducible assumption) ?_))))).mono ?_
      rintro e w1 ⟨rfl, hb1⟩
      have Hw1 : Hid (Below w.heap.size w w1) := by (show Below _ _ _); (repeat (first | (with_reducible exact Below.refl _ _) | (with_reducible assumption) | (with_reducible refine below_al ?_) | (with_reducible refine below_dr ?_) | (with_reducible refine below_drN ?_) | (with_reducible refine below_set ?_ (by first | exact Nat.le_refl _ | (dsimp only; omega) | omega)) | (with_reducible refine below_tr (by with_reducible assumption) ?_)))
      clear hb1
      go_wp2_with fail
      refine wp_region_plan (.det 1 (.det 2 (.det 3 (.det 4 (.two 0 (.one 5 (.det 6 (.one 7 (.done)))) 5 (.one 0 (.det 6 (.one 7 (.done))))))))) (fun w' => Below (w1).heap.size (w1) w') (fun a a' w' => ∃ x0 x1 x2 x3 x4 x5 x6, a' = (((((((a.put (some 21) x0).put (some 22) x1).put (some 23) x2).put (some 24) x3).put (some 25) x4).put (some 8) x5).put (some 7) x6) ∧ OwnI w' w1.heap.size x0 [] ∧ x6 = x0 ∧ ∃ ba, x5 = .pointer (some ⟨ba, 0, none⟩) ∧ w1.heap.size ≤ ba ∧ Blk w' ba [.int .i64 (Q : Int)] 2 ∧ x0.ownBlock ≠ some ba) (by kernel_rfl) (by kernel_rfl) (fun _ _ d _ _ h => by cases d <;> exact h) ((Below.refl _ _).drew) ?_ ?_
      rotate_left
      · rintro a' wa hba ⟨x0, x1, x2, x3, x4, x5, x6, rfl, hP⟩
        obtain ⟨p0, rfl, ba, rfl, hba1, hba2, hne⟩ := hP
        obtain ⟨A0, k0, rfl, _⟩ := p0.shape
        have HP0 := Lib.hid p0
        have HBa := Lib.hid hba2
        have Hba := Lib.hid hba
        have HNe := Lib.hid hne
        clear p0 hba2 hba hne hwn hw1
        go_simp
        go_wp2_with fail
        go_loopw [7, 28] (fun v iv wr => ∃ k : Nat, k ≤ n ∧ iv = .int .i64 k ∧ Hid (OwnI wr w1.heap.size v (ni ((List.range k).map (2 ^ ·)))) ∧ Hid (Blk wr ba [.int .i64 (Q : Int)] 2) ∧ Hid (v.ownBlock ≠ some ba) ∧ Hid (Below w1.heap.size w1 wr)) (fun _ i _ => n - (intOf i).toNat)
        case atStart => exact ⟨0, by omega, rfl, HP0, HBa, HNe, Hba⟩
        case round =>
          obtain ⟨k, hk, rfl, HOk, HBk1, HNk, HWk⟩ := hrel
          obtain ⟨Ak, kk, rfl, _⟩ := HOk.out.shape
          obtain ⟨ll, hll⟩ : ∃ ll, (ni ((List.range k).map (2 ^ ·))).length = ll := ⟨_, rfl⟩
          have HLl := Lib.hid hll
          have hlk : ll = k := by rw [← hll]; simp [ni]
          rw [hll] at HNk ⊢
          by_cases hkn : k < n
          · have hwk := wr2 k (by omega)
            obtain ⟨K2, hK2⟩ : ∃ K2 : Nat, 2 ^ k = K2 := ⟨_, rfl⟩
            rw [hK2] at hwk
            have HK2 := Lib.hid hK2
            have HO2 := Lib.hid (show OwnI wr w1.heap.size (.slice Ak ll kk) (ni ((List.range k).map (2 ^ ·))) by rw [← hll]; exact HOk.out)
            have HSz := Lib.hid HWk.out.size
            have HLk := Lib.hid hlk
            clear hll hlk hK2
            go_wp2_with (at_builtin; refine Hold.of ?_)
            refine Hold.to ?_
            refine wpl_app_int rfl (.tmp 31) (.tmp 34) rfl w1.heap.size (.slice Ak ll kk) (ni ((List.range k).map (2 ^ ·))) (K2 : Int) rfl (HO2.out.alloc _) wr.heap.size 0 rfl (cell_alloc_at _ _ _ _ _ rfl) (by rw [HLl.out, HLk.out]; omega) (le_al HSz.out) (fun v' w' h1 h2 h3 => ?_)
            have hb : Below w1.heap.size w1 w' := Below.grown (below_al HWk.out) h2 (le_al HSz.out) (fun q hq => (World.ownsRow.lt HO2.out q hq).1)
            have hbk := (HBk1.out.alloc (.cells #[.int .i64 (K2 : Int)] 2)).kept1 h2 HNk.out
            have hne' : v'.ownBlock ≠ some ba := by
              rcases h3 with h | h
              · rw [h]; exact HNk.out
              · rw [h]; intro e; injection e with e; simp at e; have := HBk1.out.lt; omega
            rw [← ni_app, show (List.range k).map (2 ^ ·) ++ [K2] = (List.range (k + 1)).map (2 ^ ·) by rw [List.range_succ, List.map_append, ← HK2.out]; rfl] at h1
            have HF := Lib.hid (And.intro h1 (And.intro hbk (And.intro hne' hb)))
            clear h1 h2 h3 hb hbk hne'
            go_wp2_with fail
            go_roundw
            case rel => exact ⟨k + 1, by omega, by go_num, Lib.hid HF.out.1, Lib.hid HF.out.2.1, Lib.hid HF.out.2.2.1, Lib.hid HF.out.2.2.2⟩
            case measure => simp [intOf]; omega
          · obtain rfl : k = n := by omega
            have HO0 := Lib.hid (show OwnI wr w1.heap.size (.slice Ak ll kk) (ni (setsI L 0)) by rw [← hll]; have h9 := HOk.out; rw [show setsI L 0 = (List.range k).map (2 ^ ·) by unfold setsI; rw [HN.out]]; exact h9)
            obtain ⟨M, hM⟩ : ∃ M : Nat, M = k * k := ⟨_, rfl⟩
            have hM2 : M ≤ 256 := by rw [hM]; exact Nat.le_trans (Nat.mul_le_mul hn16 hn16) (by decide)
            have hm1 : IntKind.i64.wrap ((k : Int) * (k : Int)) = (M : Int) := by rw [show ((k : Int) * (k : Int)) = (M : Int) by rw [hM]; simp]; exact IntWalk.i64_in _ (by omega)
            have HM := Lib.hid hM
            clear hM hll hlk HOk
            go_wp2_with fail
            clear hm1
            go_loopw [7, 43] (fun v iv wr => ∃ s : Nat, s ≤ M + 1 ∧ iv = .int .i64 s ∧ Hid (OwnI wr w1.heap.size v (ni (setsI L s))) ∧ Hid (Blk wr ba [.int .i64 (Q : Int)] 2) ∧ Hid (Below w1.heap.size w1 wr) ∧ Hid (∀ s', 1 ≤ s' → s' ≤ s → ¬ Full (Eb L) L.length s')) (fun _ i _ => M + 1 - (intOf i).toNat)
            case atStart => exact ⟨0, by omega, rfl, HO0, HBk1, HWk, Lib.hid (fun s' h1 h2 => by omega)⟩
            case round =>
              clear HO0 HBk1 HNk HWk
              obtain ⟨s, hs, rfl, HOs, HBs, HWs, HFs⟩ := hrel
              obtain ⟨ws, rfl⟩ : ∃ ws, ws = wr := ⟨wr, rfl⟩
              obtain ⟨As, ks, rfl, _⟩ := HOs.out.shape
              have hls : (ni (setsI L s)).length = k := by rw [ni_len, setsI_len, HN.out]
              rw [hls]
              have HOs2 := Lib.hid (show OwnI ws w1.heap.size (.slice As k ks) (ni (setsI L s)) by rw [← hls]; exact HOs.out)
              clear hls HOs
              by_cases hsM : s < M + 1
              · have hsM' : (s : Int) < (M : Int) + 1 := by omega
                go_wp2_with fail
                go_loopw [10, 48] (fun v iv wr => ∃ i : Nat, i ≤ k ∧ iv = .int .i64 i ∧ Hid (OwnI wr ws.heap.size v (ni ((L.take i).map (rowI (setsI L s))))) ∧ Hid (Below ws.heap.size ws wr)) (fun _ i _ => k - (intOf i).toNat)
                case atStart => exact ⟨0, by omega, rfl, Lib.hid (OwnI.newly (xs := []) (by simp) rfl (by simp [ints]) (Nat.le_refl _) (by simp)), Lib.hid (by (repeat (first | (with_reducible exact Below.refl _ _) | (with_reducible assumption) | (with_reducible refine below_al ?_) | (with_reducible refine below_dr ?_) | (with_reducible refine below_drN ?_) | (with_reducible refine below_set ?_ (by first | exact Nat.le_refl _ | (dsimp only; omega) | omega)) | (with_reducible refine below_tr (by with_reducible assumption) ?_))))⟩
                case round =>
                  obtain ⟨i, hi, rfl, HOi, HWi⟩ := hrel
                  obtain ⟨wi, rfl⟩ : ∃ wi, wi = wr := ⟨wr, rfl⟩
                  obtain ⟨Ai, ki, rfl, _⟩ := HOi.out.shape
                  have hli : (ni ((L.take i).map (rowI (setsI L s)))).length = i := by rw [ni_len, List.length_map, List.length_take, HN.out]; omega
                  rw [hli]
                  have HOi2 := Lib.hid (show OwnI wi ws.heap.size (.slice Ai i ki) (ni ((L.take i).map (rowI (setsI L s)))) by have h9 := HOi.out; rw [hli] at h9; exact h9)
                  clear hli HOi
                  by_cases hik : i < k
                  · have hiL : i < L.length := by rw [HN.out]; exact hik
                    obtain ⟨b, off, A1, c1, rfl, hlt, c0, r1⟩ := (HR.out.below (Hw1.out.trans (((HWs.out.trans (HWi.out.mono HWs.out.size))).mono Hw1.out.size))) i hiL
                    obtain ⟨h4, hent⟩ := HBk.out _ (List.getElem_mem hiL)
                    have HSu : Hid ((L.take (i + 1)).map (rowI (setsI L s)) = (L.take i).map (rowI (setsI L s)) ++ [rowI (setsI L s) L[i]]) := by
                      show _ = _
                      rw [List.take_succ_eq_append_getElem hiL, List.map_append]; rfl
                    have HR1 := Lib.hid r1
                    obtain ⟨row, hrow⟩ : ∃ row, row = L[i] := ⟨_, rfl⟩
                    rw [← hrow] at h4 hent HSu HR1 c0
                    rw [h4] at c0
                    have HOrt := Lib.hid (fun j => or_take HBk.out (by rw [HN.out]; exact hn16) s (b := row.take j) (fun x hx => hent x (List.mem_of_mem_take hx)))
                    have HEnt := Lib.hid hent
                    have H4 := Lib.hid h4
                    have HSl := Lib.hid (fun q hq => setsI_lt HBk.out s q hq)
                    clear r1 hent hrow
                    go_wp2_with fail
                    go_loop [12, 56] (fun av jv => ∃ j : Nat, j ≤ 4 ∧ jv = .int .i64 j ∧ av = .int .i64 (rowI (setsI L s) (row.take j) : Nat)) (fun _ j => 4 - (intOf j).toNat)
                    case atStart => exact ⟨0, by omega, rfl, rfl⟩
                    case round =>
                      obtain ⟨j, hj, rfl, rfl⟩ := hrel
                      by_cases hj4 : j < 4
                      · have hjr : j < row.length := by rw [H4.out]; exact hj4
                        obtain ⟨x0, x1⟩ := HEnt.out _ (List.getElem_mem hjr)
                        obtain ⟨bb, oo, rfl, hlb, z0⟩ := HR1.out.int j hjr
                        have HTk := Lib.hid (rowI_take (setsI L s) row j hjr)
                        have h1 := HOrt.out j
                        obtain ⟨xi, hxi⟩ := Int.eq_ofNat_of_zero_le x0
                        rw [HN.out] at x1 h1
                        have hxk : xi < k := by omega
                        have h2 := HSl.out xi (by rw [HN.out]; exact hxk)
                        rw [HN.out] at h2
                        rw [hxi, Int.toNat_natCast] at HTk
                        rw [hxi] at z0
                        obtain ⟨gg, hg1, _, _, s0, _⟩ := (HOs2.out.below HWi.out).at_ xi (by rw [ni_len, setsI_len, HN.out]; exact hxk)
                        rw [ni_get _ _ _ (by rw [setsI_len, HN.out]; exact hxk)] at s0
                        have hor := or_nat _ _ (lt60 hn16 h1) (lt60 hn16 h2)
                        rw [← HTk.out] at hor
                        generalize hcc : rowI (setsI L s) (row.take (j + 1)) = cc at *
                        have HCc := Lib.hid hcc
                        generalize rowI (setsI L s) (row.take j) = aa at *
                        generalize (setsI L s).getD xi 0 = dd at *
                        subst hg1
                        clear h1 h2 x0 x1 hxi HTk hcc
                        go_wp2_with fail
                        go_round
                        case rel => exact ⟨j + 1, by omega, by go_num, by rw [HCc.out]⟩
                        case measure => simp [intOf]; omega
                      · obtain rfl : j = 4 := by omega
                        have htk : row.take 4 = row := List.take_of_length_le (by rw [H4.out]; omega)
                        rw [htk]
                        have HLi := Lib.hid (show (ni ((L.take i).map (rowI (setsI L s)))).length = i by rw [ni_len, List.length_map, List.length_take, HN.out]; omega)
                        generalize rowI (setsI L s) row = cc at *
                        clear htk
                        go_wp2_with (at_builtin; refine Hold.of ?_)
                        refine Hold.to ?_
                        refine wpl_app_int rfl (.tmp 67) (.tmp 69) rfl ws.heap.size (.slice Ai i ki) (ni ((L.take i).map (rowI (setsI L s)))) (cc : Int) rfl (HOi2.out.alloc _) wi.heap.size 0 rfl (cell_alloc_at _ _ _ _ _ rfl) (by rw [HLi.out]; omega) (le_al HWi.out.size) (fun v' w' h1 h2 h3 => ?_)
                        have hb : Below ws.heap.size ws w' := Below.grown (below_al HWi.out) h2 (le_al HWi.out.size) (fun q hq => (World.ownsRow.lt HOi2.out q hq).1)
                        rw [← ni_app, ← HSu.out] at h1
                        have HF := Lib.hid (And.intro h1 hb)
                        clear h1 h2 h3 hb
                        go_wp2_with fail
                        go_roundw
                        case rel => exact ⟨i + 1, by omega, by go_num, Lib.hid HF.out.1, Lib.hid HF.out.2⟩
                        case measure => simp [intOf]; omega
                  · obtain rfl : i = k := by omega
                    have HO3 := Lib.hid (show OwnI wi ws.heap.size (.slice Ai i ki) (ni (setsI L (s + 1))) by have h9 := HOi2.out; rw [List.take_of_length_le (by rw [HN.out]; omega)] at h9; exact h9)
                    have hl3 : (ni (setsI L (s + 1))).length = i := by rw [ni_len, setsI_len, HN.out]
                    have HB3 := Lib.hid (HBs.out.under HWi.out)
                    have hcf := containsFuncI_c (ni (setsI L (s + 1))) Ai ki 111 #[.pointer (some ⟨ba, 0, none⟩)] (fun x => x != (Q : Int)) wi (fun _ _ => rfl) (by obtain ⟨A9, k9, e9, c9, _⟩ := HO3.out.shape; injection e9 with e9 _ _; subst e9; exact c9) (by rw [hl3]; omega) (fun x _ w2 hb => prim1_c x Q ba w2 (by have h9 := (HB3.out.under hb).cell 0 (by simp); exact h9))
                    rw [hl3] at hcf
                    have HCf := Lib.hid hcf
                    have hany := ni_any (S := setsI L (s + 1)) (Q := Q)
                    have HFull := Lib.hid (fullI HBk.out (s + 1))
                    rw [setsI_len] at hany
                    rw [← HQ.out] at HFull
                    have HO4 := Lib.hid (HO3.out.weaken (B' := w1.heap.size) HWs.out.size)
                    have HW3 := Lib.hid (HWs.out.trans (HWi.out.mono HWs.out.size))
                    generalize hav : (ni (setsI L (s + 1))).any (fun x => x != (Q : Int)) = av at *
                    have HAny := Lib.hid hany
                    clear hcf hl3 HOi2 hany hav
                    cases av
                    · have HV3 := Lib.hid (HV2.out.trans (primB_true (s := s + 1) (by omega) (by rw [HN.out, ← HM.out]; omega) (HFull.out.1 (HAny.out.1 rfl))))
                      go_wp2_with fail
                      refine HCf.out.mono ?_
                      rintro e w5 ⟨rfl, hb5⟩
                      have HB5 := Lib.hid (HW3.out.trans (hb5.mono HW3.out.size))
                      clear hb5
                      go_wp2
                      go_ret2
                      exact ⟨ret_bc HV3.out.symm rfl, Hw1.out.trans (HB5.out.mono Hw1.out.size)⟩
                    · have HNf := Lib.hid (show ¬ Full (Eb L) L.length (s + 1) from fun hf => by have := HAny.out.2 (HFull.out.2 hf); cases this)
                      go_wp2_with fail
                      refine HCf.out.mono ?_
                      rintro e w5 ⟨rfl, hb5⟩
                      have HB5 := Lib.hid (HW3.out.trans (hb5.mono HW3.out.size))
                      have HO5 := Lib.hid (HO4.out.below hb5)
                      have HK5 := Lib.hid (HB3.out.under hb5)
                      clear hb5
                      go_wp2_with fail
                      go_roundw
                      case rel => exact ⟨s + 1, by omega, by go_num, HO5, HK5, HB5, Lib.hid (fun s' h1 h2 => by
                        by_cases e : s' = s + 1
                        · subst e; exact HNf.out
                        · exact HFs.out s' h1 (by omega))⟩
                      case measure => simp [intOf]; omega
              · obtain rfl : s = M + 1 := by omega
                have HV3 := Lib.hid (HV2.out.trans (primB_false (fun s' h1 h2 => HFs.out s' h1 (by rw [HN.out, ← HM.out] at h2; exact h2))))
                go_wp2_with fail
                go_ret2
                exact ⟨ret_bc HV3.out.symm rfl, Hw1.out.trans (HWs.out.mono Hw1.out.size)⟩
      repeat (first
        | (refine plan_skip rfl rfl (fun K' hK' => ?_); go_simp; refine hK' _ ?_; clear hK' K')
        | (refine plan_do (v := ?_) rfl rfl (fun w1 hb => ?_) (fun K' hK' => ?_); rotate_left
           · go_simp
             rfl
           go_simp; refine hK' _ ?_; clear hK' K'))
      refine plan_two ?_ ?_
      · refine step_op rfl rfl (fun K' hK' => ?_)
        go_simp
        refine hK' _ _ (below_al (Below.refl _ w1).drew) ?_; clear hK' K'
        refine plan_one (step_op rfl rfl (fun K' hK' => ?_))
        go_simp
        refine hK' _ _ (below_al (below_al (Below.refl _ w1).drew)) ?_; clear hK' K'
        repeat (first
          | (refine plan_skip rfl rfl (fun K' hK' => ?_); go_simp; refine hK' _ ?_; clear hK' K')
          | (refine plan_do (v := ?_) rfl rfl (fun w1 hb => ?_) (fun K' hK' => ?_); rotate_left
             · go_simp
               rfl
             go_simp; refine hK' _ ?_; clear hK' K'))
        refine plan_one (step_op rfl rfl (fun K' hK' => ?_))
        go_simp
        refine hK' _ _ (below_al (below_al (Below.refl _ w1).drew)) ?_; clear hK' K'
        refine plan_done ⟨?_, ?_, ?_, ?_, ?_, ?_, ?_, ?_, ?_⟩
        rotate_left 7
        · go_simp; (first | rfl | (and_intros <;> rfl))
        · exact ⟨OwnI.alloc (OwnI.newly (xs := []) (by simp) rfl (by simp [ints]) (Nat.le_refl _) (by simp)) _, rfl, _, rfl, by simp, (by simpa using (Blk.new (w1.alloc (.cells #[] 2)) [.int .i64 (Q : Int)] 2).drew), ne_blk2 (by omega)⟩
      · refine step_op rfl rfl (fun K' hK' => ?_)
        go_simp
        refine hK' _ _ (below_al (Below.refl _ w1).drew) ?_; clear hK' K'
        refine plan_one (step_op rfl rfl (fun K' hK' => ?_))
        go_simp
        refine hK' _ _ (below_al (below_al (Below.refl _ w1).drew)) ?_; clear hK' K'
        repeat (first
          | (refine plan_skip rfl rfl (fun K' hK' => ?_); go_simp; refine hK' _ ?_; clear hK' K')
          | (refine plan_do (v := ?_) rfl rfl (fun w1 hb => ?_) (fun K' hK' => ?_); rotate_left
             · go_simp
               rfl
             go_simp; refine hK' _ ?_; clear hK' K'))
        refine plan_one (step_op rfl rfl (fun K' hK' => ?_))
        go_simp
        refine hK' _ _ (below_al (below_al (Below.refl _ w1).drew)) ?_; clear hK' K'
        refine plan_done ⟨?_, ?_, ?_, ?_, ?_, ?_, ?_, ?_, ?_⟩
        rotate_left 7
        · go_simp; (first | rfl | (and_intros <;> rfl))
        · exact ⟨OwnI.newly (xs := []) (by simp) rfl (by simp [ints]) (le_al (Nat.le_refl _)) (by simp), rfl, _, rfl, Nat.le_refl _, ((Blk.new w1 [.int .i64 (Q : Int)] 2).alloc (.cells #[] 2)).drew, ne_blk2 (by omega)⟩
theorem setsS_get (L : List (List Int)) (s i : Nat) (hi : i < L.length) : (setsS L (s + 1)).getD i 0 = rowS L ((setsS L s).getD i 0) L.length := by simp [setsS, hi, setsS_len]
theorem putS_take (b : List Int) (acc j : Nat) (hj : j < b.length) : putS (b.take (j + 1)) acc = putS (b.take j) acc ||| 2 ^ b[j].toNat := by
  unfold putS; rw [List.take_succ_eq_append_getElem hj, List.foldl_append]; rfl
theorem putS_lt {L : List (List Int)} (hB : BlkOk L) {b : List Int} (hb : ∀ x ∈ b, 0 ≤ x ∧ x < (L.length : Int)) {acc : Nat} (ha : acc < 2 ^ L.length) : putS b acc < 2 ^ L.length := by
  refine bits_lt fun y h => ?_
  rw [putS, foldl_or_bit, Bool.or_eq_true, List.any_eq_true] at h
  rcases h with h | ⟨k, hk, hx⟩
  · refine Classical.byContradiction fun hn => ?_
    rw [Nat.testBit_lt_two_pow (Nat.lt_of_lt_of_le ha (Nat.pow_le_pow_right (by decide) (by omega)))] at h
    cases h
  · have := hb k hk
    rw [Nat.testBit_two_pow, decide_eq_true_eq] at hx
    omega
theorem rowS_lt {L : List (List Int)} (hB : BlkOk L) (x m : Nat) (hm : m ≤ L.length) : rowS L x m < 2 ^ L.length :=
  bits_lt fun y h => by
    obtain ⟨k, _, _, h3⟩ := (rowS_bit hB x y m hm).1 h
    exact (Eb_in hB k y h3).2
set_option maxRecDepth 100000 in
set_option maxHeartbeats 1000000 in
theorem specIsPrimitive_c (c : Int) (ts : List T4) (A : Option Addr) (cx : Nat) (L : List (List Int)) (B : Option Addr) (cr : Nat) (w : World) (hT : TileCells w A ts) (hl : ts.length ≤ 1000000000) (hR : RowsC w B L) (hn : L.length ≤ 1000000000) (hS : Short 1000000000 L) :
    Calls Tryz.prog 42 #[.agg #[.int .i64 c, .slice A ts.length cx], .slice B L.length cr] w fun e w' => e = .returned (.tuple #[.bool (primV c ts L), .int .i64 (codeB (isSetB c ts) (areBlocksB ts.length L))]) ∧ Below w.heap.size w w' := by
  have HC := Lib.hid (fun (wq : World) (hq : Below w.heap.size w wq) => l09Code_c c ts A cx L B cr wq (hT.below hq) hl (hR.below hq) hn hS)
  have HR := Lib.hid hR
  have HV : Hid (primV c ts L = (isSetB c ts && areBlocksB ts.length L && primB L)) := rfl
  have h16 := fun h => (isSetB_small (c := c) (ts := ts) h).2
  have hbk := fun h => areBlocksB_iff (n := ts.length) (L := L) h
  clear hT hR
  generalize isSetB c ts = s at *
  generalize areBlocksB ts.length L = a at *
  cases s
  · have HF := Lib.hid HV.out
    clear h16 hbk
    go_enter Tryz.func42, Tryz.ntmps42
    go_wp2_with fail
    refine (HC.out _ (by (repeat (first | (with_reducible exact Below.refl _ _) | (with_reducible assumption) | (with_reducible refine below_al ?_) | (with_reducible refine below_dr ?_) | (with_reducible refine below_drN ?_) | (with_reducible refine below_set ?_ (by first | exact Nat.le_refl _ | (dsimp only; omega) | omega)) | (with_reducible refine below_tr (by with_reducible assumption) ?_))))).mono ?_
    rintro e w1 ⟨rfl, hb1⟩
    have Hw1 : Hid (Below w.heap.size w w1) := by (show Below _ _ _); (repeat (first | (with_reducible exact Below.refl _ _) | (with_reducible assumption) | (with_reducible refine below_al ?_) | (with_reducible refine below_dr ?_) | (with_reducible refine below_drN ?_) | (with_reducible refine below_set ?_ (by first | exact Nat.le_refl _ | (dsimp only; omega) | omega)) | (with_reducible refine below_tr (by with_reducible assumption) ?_)))
    clear hb1
    go_wp2
    go_ret2
    exact ⟨ret_bc HF.out.symm rfl, Hw1.out⟩
  · cases a
    · have HF := Lib.hid HV.out
      clear h16 hbk
      go_enter Tryz.func42, Tryz.ntmps42
      go_wp2_with fail
      refine (HC.out _ (by (repeat (first | (with_reducible exact Below.refl _ _) | (with_reducible assumption) | (with_reducible refine below_al ?_) | (with_reducible refine below_dr ?_) | (with_reducible refine below_drN ?_) | (with_reducible refine below_set ?_ (by first | exact Nat.le_refl _ | (dsimp only; omega) | omega)) | (with_reducible refine below_tr (by with_reducible assumption) ?_))))).mono ?_
      rintro e w1 ⟨rfl, hb1⟩
      have Hw1 : Hid (Below w.heap.size w w1) := by (show Below _ _ _); (repeat (first | (with_reducible exact Below.refl _ _) | (with_reducible assumption) | (with_reducible refine below_al ?_) | (with_reducible refine below_dr ?_) | (with_reducible refine below_drN ?_) | (with_reducible refine below_set ?_ (by first | exact Nat.le_refl _ | (dsimp only; omega) | omega)) | (with_reducible refine below_tr (by with_reducible assumption) ?_)))
      clear hb1
      go_wp2
      go_ret2
      exact ⟨ret_bc HF.out.symm rfl, Hw1.out⟩
    · have HV2 : Hid (primV c ts L = primB L) := HV.out
      rw [show codeB true true = 0 from rfl] at HC ⊢
      have hB := hbk rfl
      have hn16 : L.length ≤ 16 := by rw [hB.1]; exact h16 rfl
      have HBk := Lib.hid hB.ok
      obtain ⟨n, hn'⟩ : ∃ n, L.length = n := ⟨_, rfl⟩
      have HN := Lib.hid hn'
      rw [hn'] at hn16 hn
      have hp : 2 ^ n ≤ 2 ^ 16 := Nat.pow_le_pow_right (by decide) hn16
      have hp1 := Nat.two_pow_pos n
      have hwn := wr2 n (by omega)
      obtain ⟨P, hP⟩ : ∃ P : Nat, 2 ^ n = P := ⟨_, rfl⟩
      rw [hP] at hp hp1 hwn
      obtain ⟨Q, hQ⟩ : ∃ Q : Nat, Q = P - 1 := ⟨_, rfl⟩
      have hw1 : IntKind.i64.wrap ((P : Int) - 1) = (Q : Int) := by rw [IntWalk.i64_in _ (by omega)]; omega
      have HQ := Lib.hid (show Q = 2 ^ L.length - 1 by rw [HN.out, hP]; exact hQ)
      clear h16 hbk hB hP hQ
      rw [hn'] at HC ⊢
      clear hn'
      go_enter Tryz.func42, Tryz.ntmps42
      go_wp2_with fail
      refine (HC.out _ (by (repeat (first | (with_reducible exact Below.refl _ _) | (with_reducible assumption) | (with_reducible refine below_al ?_) | (with_reducible refine below_dr ?_) | (with_reducible refine below_drN ?_) | (with_reducible refine below_set ?_ (by first | exact Nat.le_refl _ | (dsimp only; omega) | omega)) | (with_reducible refine below_tr (by with_reducible assumption) ?_))))).mono ?_
      rintro e w1 ⟨rfl, hb1⟩
      have Hw1 : Hid (Below w.heap.size w w1) := by (show Below _ _ _); (repeat (first | (with_reducible exact Below.refl _ _) | (with_reducible assumption) | (with_reducible refine below_al ?_) | (with_reducible refine below_dr ?_) | (with_reducible refine below_drN ?_) | (with_reducible refine below_set ?_ (by first | exact Nat.le_refl _ | (dsimp only; omega) | omega)) | (with_reducible refine below_tr (by with_reducible assumption) ?_)))
      clear hb1
      go_wp2_with fail
      clear hwn hw1
      go_loopw [9, 10] (fun v iv wr => ∃ k : Nat, k ≤ n ∧ iv = .int .i64 k ∧ Hid (OwnI wr w1.heap.size v (ni ((List.range k).map (2 ^ ·)))) ∧ Hid (Below w1.heap.size w1 wr)) (fun _ i _ => n - (intOf i).toNat)
      case atStart => exact ⟨0, by omega, rfl, Lib.hid (OwnI.newly (xs := []) (by simp) rfl (by simp [ints]) (Nat.le_refl _) (by simp)), Lib.hid (by (repeat (first | (with_reducible exact Below.refl _ _) | (with_reducible assumption) | (with_reducible refine below_al ?_) | (with_reducible refine below_dr ?_) | (with_reducible refine below_drN ?_) | (with_reducible refine below_set ?_ (by first | exact Nat.le_refl _ | (dsimp only; omega) | omega)) | (with_reducible refine below_tr (by with_reducible assumption) ?_))))⟩
      case round =>
        obtain ⟨k, hk, rfl, HOk, HWk⟩ := hrel
        obtain ⟨Ak, kk, rfl, _⟩ := HOk.out.shape
        have hlk : (ni ((List.range k).map (2 ^ ·))).length = k := by simp [ni]
        rw [hlk]
        have HO2 := Lib.hid (show OwnI wr w1.heap.size (.slice Ak k kk) (ni ((List.range k).map (2 ^ ·))) by have h9 := HOk.out; rw [hlk] at h9; exact h9)
        have HLk := Lib.hid hlk
        clear hlk HOk
        by_cases hkn : k < n
        · have hwk := wr2 k (by omega)
          obtain ⟨K2, hK2⟩ : ∃ K2 : Nat, 2 ^ k = K2 := ⟨_, rfl⟩
          rw [hK2] at hwk
          have HK2 := Lib.hid hK2
          have HSz := Lib.hid HWk.out.size
          clear hK2
          go_wp2_with (at_builtin; refine Hold.of ?_)
          refine Hold.to ?_
          refine wpl_app_int rfl (.tmp 36) (.tmp 40) rfl w1.heap.size (.slice Ak k kk) (ni ((List.range k).map (2 ^ ·))) (K2 : Int) rfl (HO2.out.alloc _) wr.heap.size 0 rfl (cell_alloc_at _ _ _ _ _ rfl) (by rw [HLk.out]; omega) (le_al HSz.out) (fun v' w' h1 h2 h3 => ?_)
          have hb : Below w1.heap.size w1 w' := Below.grown (below_al HWk.out) h2 (le_al HSz.out) (fun q hq => (World.ownsRow.lt HO2.out q hq).1)
          rw [← ni_app, show (List.range k).map (2 ^ ·) ++ [K2] = (List.range (k + 1)).map (2 ^ ·) by rw [List.range_succ, List.map_append, ← HK2.out]; rfl] at h1
          have HF := Lib.hid (And.intro h1 hb)
          clear h1 h2 h3 hb
          go_wp2_with fail
          go_roundw
          case rel => exact ⟨k + 1, by omega, by go_num, Lib.hid HF.out.1, Lib.hid HF.out.2⟩
          case measure => simp [intOf]; omega
        · obtain rfl : k = n := by omega
          have HO0 := Lib.hid (show OwnI wr w1.heap.size (.slice Ak k kk) (ni (setsS L 0)) by have h9 := HO2.out; rw [show setsS L 0 = (List.range k).map (2 ^ ·) by unfold setsS; rw [HN.out]]; exact h9)
          obtain ⟨M, hM⟩ : ∃ M : Nat, M = k * k := ⟨_, rfl⟩
          have hM2 : M ≤ 256 := by rw [hM]; exact Nat.le_trans (Nat.mul_le_mul hn16 hn16) (by decide)
          have hm1 : IntKind.i64.wrap ((k : Int) * (k : Int)) = (M : Int) := by rw [show ((k : Int) * (k : Int)) = (M : Int) by rw [hM]; simp]; exact IntWalk.i64_in _ (by omega)
          have HM := Lib.hid hM
          clear hM HO2
          go_wp2_with fail
          go_loopw [9, 11] (fun v iv wr => ∃ s : Nat, s ≤ M ∧ iv = .int .i64 s ∧ Hid (OwnI wr w1.heap.size v (ni (setsS L s))) ∧ Hid (Below w1.heap.size w1 wr) ∧ Hid (∀ s', 1 ≤ s' → s' ≤ s → ¬ Full (Eb L) L.length s')) (fun _ i _ => M - (intOf i).toNat)
          case atStart => exact ⟨0, by omega, rfl, HO0, HWk, Lib.hid (fun s' h1 h2 => by omega)⟩
          case round =>
            clear HO0 HWk
            obtain ⟨s, hs, rfl, HOs, HWs, HFs⟩ := hrel
            obtain ⟨ws, rfl⟩ : ∃ ws, ws = wr := ⟨wr, rfl⟩
            obtain ⟨As, ks, rfl, _⟩ := HOs.out.shape
            have hls : (ni (setsS L s)).length = k := by rw [ni_len, setsS_len, HN.out]
            rw [hls]
            have HOs2 := Lib.hid (show OwnI ws w1.heap.size (.slice As k ks) (ni (setsS L s)) by have h9 := HOs.out; rw [hls] at h9; exact h9)
            clear hls HOs
            by_cases hsM : s < M
            · have hsM' : (s : Int) < (M : Int) := by omega
              go_wp2_with fail
              have hnx : ∀ i, (setsS L (s + 1)).take i = ((setsS L s).take i).map fun x => rowS L x L.length := fun i => by simp only [setsS, List.map_take]
              have HNx := Lib.hid hnx
              clear hnx
              go_loopw [12, 13, 14] (fun v gv iv wr => ∃ i : Nat, i ≤ k ∧ iv = .int .i64 i ∧ gv = .bool ((List.range i).all fun q => (setsS L (s + 1)).getD q 0 == Q) ∧ Hid (OwnI wr ws.heap.size v (ni ((setsS L (s + 1)).take i))) ∧ Hid (Below ws.heap.size ws wr)) (fun _ _ i _ => k - (intOf i).toNat)
              case atStart => exact ⟨0, by omega, rfl, by simp, Lib.hid (OwnI.newly (xs := []) (by simp) rfl (by simp [ints]) (Nat.le_refl _) (by simp)), Lib.hid (by (repeat (first | (with_reducible exact Below.refl _ _) | (with_reducible assumption) | (with_reducible refine below_al ?_) | (with_reducible refine below_dr ?_) | (with_reducible refine below_drN ?_) | (with_reducible refine below_set ?_ (by first | exact Nat.le_refl _ | (dsimp only; omega) | omega)) | (with_reducible refine below_tr (by with_reducible assumption) ?_))))⟩
              case round =>
                obtain ⟨i, hi, rfl, rfl, HOi, HWi⟩ := hrel
                obtain ⟨wi, rfl⟩ : ∃ wi, wi = wr := ⟨wr, rfl⟩
                obtain ⟨Ai, ki, rfl, _⟩ := HOi.out.shape
                have hli : (ni ((setsS L (s + 1)).take i)).length = i := by rw [ni_len, List.length_take, setsS_len, HN.out]; omega
                rw [hli]
                have HOi2 := Lib.hid (show OwnI wi ws.heap.size (.slice Ai i ki) (ni ((setsS L (s + 1)).take i)) by have h9 := HOi.out; rw [hli] at h9; exact h9)
                have HLi := Lib.hid hli
                clear hli HOi
                have HGs := Lib.hid (show ((List.range (i + 1)).all fun q => (setsS L (s + 1)).getD q 0 == Q) = (((List.range i).all fun q => (setsS L (s + 1)).getD q 0 == Q) && ((setsS L (s + 1)).getD i 0 == Q)) by rw [List.range_succ, List.all_append]; simp)
                by_cases hik : i < k
                · have hiL : i < L.length := by rw [HN.out]; exact hik
                  obtain ⟨gg, hg1, _, _, s0, _⟩ := (HOs2.out.below HWi.out).at_ i (by rw [ni_len, setsS_len]; exact hiL)
                  rw [ni_get _ _ _ (by rw [setsS_len]; exact hiL)] at s0
                  subst hg1
                  have HSg := Lib.hid (setsS_get L s i hiL)
                  have hx60 := lt60 hn16 (by have h9 := setsS_lt HBk.out s i hiL; rw [HN.out] at h9; exact h9)
                  have HTk : Hid ((setsS L (s + 1)).take (i + 1) = (setsS L (s + 1)).take i ++ [(setsS L (s + 1)).getD i 0]) := by
                    show _ = _
                    have h9 : i < (setsS L (s + 1)).length := by rw [setsS_len]; exact hiL
                    rw [List.take_succ_eq_append_getElem h9]
                    simp [h9]
                  generalize (setsS L s).getD i 0 = x at *
                  have HX := Lib.hid hx60
                  clear hx60
                  generalize ((List.range i).all fun q => (setsS L (s + 1)).getD q 0 == Q) = gi at *
                  go_wp2_with fail
                  go_loop [15, 16] (fun ov mv => ∃ m : Nat, m ≤ k ∧ mv = .int .i64 m ∧ ov = .int .i64 (rowS L x m : Nat)) (fun _ m => k - (intOf m).toNat)
                  case atStart => exact ⟨0, by omega, rfl, rfl⟩
                  case round =>
                    obtain ⟨m, hm, rfl, rfl⟩ := hrel
                    by_cases hmk : m < k
                    · have HRs := Lib.hid (rowS_succ L x m)
                      have hand := and_one2 x m HX.out
                      generalize x.testBit m = tb at *
                      cases tb
                      · have HRs2 := Lib.hid (HRs.out.trans (if_neg (by decide)))
                        go_wp2_with fail
                        go_round
                        case rel => exact ⟨m + 1, by omega, by go_num, by rw [HRs2.out]⟩
                        case measure => simp [intOf]; omega
                      · have HRs2 := Lib.hid (HRs.out.trans (if_pos rfl))
                        have hmL : m < L.length := by rw [HN.out]; exact hmk
                        obtain ⟨b, off, A1, c1, rfl, hlt, c0, r1⟩ := (HR.out.below (Hw1.out.trans (((HWs.out.trans (HWi.out.mono HWs.out.size))).mono Hw1.out.size))) m hmL
                        obtain ⟨h4, hent⟩ := HBk.out _ (List.getElem_mem hmL)
                        have hgd : L.getD m [] = L[m] := by simp [hmL]
                        rw [hgd] at HRs2
                        have hrl := rowS_lt HBk.out x m (by omega)
                        have HPt := Lib.hid (fun j => putS_lt HBk.out (b := (L[m]'hmL).take j) (fun y hy => hent y (List.mem_of_mem_take hy)) hrl)
                        obtain ⟨row, hrow⟩ : ∃ row, row = L[m] := ⟨_, rfl⟩
                        rw [← hrow] at h4 hent HRs2 r1 c0 HPt
                        rw [h4] at c0
                        have HR1 := Lib.hid r1
                        have HEnt := Lib.hid hent
                        have H4 := Lib.hid h4
                        generalize hac : rowS L x m = ac at *
                        clear hgd hrl r1 hent hrow hac
                        go_wp2_with fail
                        go_loop [15, 17] (fun ov jv => ∃ j : Nat, j ≤ 4 ∧ jv = .int .i64 j ∧ ov = .int .i64 (putS (row.take j) ac : Nat)) (fun _ j => 4 - (intOf j).toNat)
                        case atStart => exact ⟨0, by omega, rfl, rfl⟩
                        case round =>
                          obtain ⟨j, hj, rfl, rfl⟩ := hrel
                          by_cases hj4 : j < 4
                          · have hjr : j < row.length := by rw [H4.out]; exact hj4
                            obtain ⟨x0, x1⟩ := HEnt.out _ (List.getElem_mem hjr)
                            obtain ⟨bb, oo, rfl, hlb, z0⟩ := HR1.out.int j hjr
                            have HTk := Lib.hid (putS_take row ac j hjr)
                            obtain ⟨xi, hxi⟩ := Int.eq_ofNat_of_zero_le x0
                            rw [HN.out] at x1
                            have hxk : xi < k := by omega
                            rw [hxi, Int.toNat_natCast] at HTk
                            rw [hxi] at z0
                            have h1 := HPt.out j
                            rw [HN.out] at h1
                            have hor := or_nat _ (2 ^ xi) (lt60 hn16 h1) (pows_lt hn16 hxk)
                            rw [← HTk.out] at hor
                            have hwx := wr2 xi (by omega)
                            obtain ⟨px, hpx⟩ : ∃ px : Nat, 2 ^ xi = px := ⟨_, rfl⟩
                            rw [hpx] at hor hwx
                            generalize hcc : putS (row.take (j + 1)) ac = cc at *
                            have HCc := Lib.hid hcc
                            generalize putS (row.take j) ac = aa at *
                            clear h1 x0 x1 hxi HTk hcc hpx
                            go_wp2_with fail
                            go_round
                            case rel => exact ⟨j + 1, by omega, by go_num, by rw [HCc.out]⟩
                            case measure => simp [intOf]; omega
                          · obtain rfl : j = 4 := by omega
                            have htk : row.take 4 = row := List.take_of_length_le (by rw [H4.out]; omega)
                            rw [htk, ← HRs2.out]
                            clear htk
                            go_wp2_with fail
                            go_round
                            case rel => exact ⟨m + 1, by omega, by go_num, rfl⟩
                            case measure => simp [intOf]; omega
                    · obtain rfl : m = k := by omega
                      have HSg2 := Lib.hid (show rowS L x m = (setsS L (s + 1)).getD i 0 by rw [HSg.out, HN.out])
                      rw [HSg2.out]
                      generalize (setsS L (s + 1)).getD i 0 = own at *
                      have hqq : ((own : Int) == (Q : Int)) = (own == Q) := by rw [Bool.eq_iff_iff, beq_iff_eq, beq_iff_eq]; omega
                      generalize (own == Q) = eq at *
                      have HLi2 := HLi
                      cases gi <;> cases eq
                      all_goals
                        go_wp2_with (at_builtin; refine Hold.of ?_)
                        refine Hold.to ?_
                        refine wpl_app_int rfl (.tmp 84) (.tmp 86) rfl ws.heap.size (.slice Ai i ki) (ni ((setsS L (s + 1)).take i)) (own : Int) rfl (HOi2.out.alloc _) wi.heap.size 0 rfl (cell_alloc_at _ _ _ _ _ rfl) (by rw [HLi.out]; omega) (le_al HWi.out.size) (fun v' w' h1 h2 h3 => ?_)
                        have hb : Below ws.heap.size ws w' := Below.grown (below_al HWi.out) h2 (le_al HWi.out.size) (fun q hq => (World.ownsRow.lt HOi2.out q hq).1)
                        rw [← ni_app, ← HTk.out] at h1
                        have HF := Lib.hid (And.intro h1 hb)
                        clear h1 h2 h3 hb
                        go_wp2_with fail
                        go_roundw
                        case rel => exact ⟨i + 1, by omega, by go_num, by rw [HGs.out]; rfl, Lib.hid HF.out.1, Lib.hid HF.out.2⟩
                        case measure => simp [intOf]; omega
                · obtain rfl : i = k := by omega
                  have HO3 := Lib.hid (show OwnI wi w1.heap.size (.slice Ai i ki) (ni (setsS L (s + 1))) by have h9 := HOi2.out; rw [List.take_of_length_le (by rw [setsS_len, HN.out]; omega)] at h9; exact h9.weaken HWs.out.size)
                  have HW3 := Lib.hid (HWs.out.trans (HWi.out.mono HWs.out.size))
                  have hfull : ((List.range i).all fun q => (setsS L (s + 1)).getD q 0 == Q) = true ↔ Full (Eb L) L.length (s + 1) := by
                    rw [← fullS HBk.out (s + 1), List.all_eq_true, ← HQ.out, HN.out]
                    exact ⟨fun h q hq => by simpa using h q (List.mem_range.2 hq), fun h q hq => by simpa using h q (List.mem_range.1 hq)⟩
                  cases hall : (List.range i).all fun q => (setsS L (s + 1)).getD q 0 == Q
                  · have HNf := Lib.hid (show ¬ Full (Eb L) L.length (s + 1) from fun hf => by have := hfull.2 hf; rw [hall] at this; cases this)
                    clear hall hfull
                    go_wp2_with fail
                    go_roundw
                    case rel => exact ⟨s + 1, by omega, by go_num, HO3, HW3, Lib.hid (fun s' h1 h2 => by
                      by_cases e : s' = s + 1
                      · subst e; exact HNf.out
                      · exact HFs.out s' h1 (by omega))⟩
                    case measure => simp [intOf]; omega
                  · have HV3 := Lib.hid (HV2.out.trans (primB_true (s := s + 1) (by omega) (by rw [HN.out, ← HM.out]; omega) (hfull.1 hall)))
                    clear hall hfull
                    go_wp2_with fail
                    go_ret2
                    exact ⟨ret_bc HV3.out.symm rfl, Hw1.out.trans (HW3.out.mono Hw1.out.size)⟩
            · obtain rfl : s = M := by omega
              have HV3 : Hid (primV c ts L = ((k : Int) == 0)) := by
                show _ = _
                rw [HV2.out]
                by_cases h0 : k = 0
                · have : L = [] := List.eq_nil_of_length_eq_zero (by rw [HN.out]; exact h0)
                  rw [this, primB_nil, h0]; rfl
                · rw [primB_false' HBk.out (by rw [HN.out]; omega) (fun s' h1 h2 => HFs.out s' h1 (by rw [HN.out, ← HM.out] at h2; exact h2))]
                  simp [h0]
              go_wp2_with fail
              go_ret2
              exact ⟨ret_bc HV3.out.symm rfl, Hw1.out.trans (HWs.out.mono Hw1.out.size)⟩

end Go.Proofs.YtkgnejhflnekaaaGreat
