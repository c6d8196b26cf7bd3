/- Contracts and lemmas for the statements of this seat, written for this claim; each theorem states its own conditions. -/
import Derived.Test.YtnoehaphbpkpjaaGreatFoBk
set_option linter.unusedVariables false
set_option linter.unusedSimpArgs false
namespace Go.Proofs.YtnoehaphbpkpjaaGreat
open Go.RowKit
theorem infoStr : (Tryz.prog.info? 9).map (fun i => (i.zero, i.size, i.bytes)) = some (some (.string ⟨#[]⟩), 1, 16) := by kernel_rfl
def scells (xs : List ByteArray) : List Value := xs.map fun x => .string x
theorem scells_length (xs : List ByteArray) : (scells xs).length = xs.length := by simp [scells]
/-- a slice of strings that the call made and owns -/
def OwnS (w : World) (B : Nat) (v : Value) (xs : List ByteArray) : Prop := w.ownsRow B 9 1 v xs.length (scells xs)
theorem OwnS.below {w w1 : World} {B : Nat} {v : Value} {xs : List ByteArray} (h : OwnS w B v xs) (hb : Below w.heap.size w w1) : OwnS w1 B v xs :=
  World.ownsRow.kept (row := none) h ⟨hb.os, hb.tape, hb.output, hb.size, fun k hk _ => hb.block k hk⟩ (by cases h : v.ownBlock with | none => exact .inl rfl | some k => exact .inr (by simp))
theorem OwnS.shape {w : World} {B : Nat} {v : Value} {xs : List ByteArray} (h : OwnS w B v xs) : ∃ A cx, v = .slice A xs.length cx := by
  obtain ⟨h1, h2⟩ := h
  rcases h2 with ⟨rfl, h2⟩ | ⟨g, cap, cur, rfl, _⟩
  · exact ⟨none, 0, by rw [h2]⟩
  · exact ⟨_, _, rfl⟩
theorem OwnS.lt {w : World} {B : Nat} {v : Value} {xs : List ByteArray} (h : OwnS w B v xs) : ∀ k, v.ownBlock = some k → B ≤ k ∧ k < w.heap.size := fun k hk => World.ownsRow.lt h k hk
theorem OwnS.at_ {w : World} {B n cx : Nat} {A : Option Addr} {xs : List ByteArray} (h : OwnS w B (.slice A n cx) xs) (j : Nat) (hj : j < xs.length) :
    ∃ g, A = some ⟨g, 0, none⟩ ∧ B ≤ g ∧ g < w.heap.size ∧ w.cell? ⟨g, j, none⟩ = some (.string xs[j]) := by
  have h0 := h
  obtain ⟨h1, h2⟩ := h
  rcases h2 with ⟨e1, e2⟩ | ⟨g, cap, cur, e1, e2, e3, _⟩
  · omega
  · injection e1 with a1 a2 a3
    subst a1 a2 a3
    have hc := World.ownsRow.cellAt h0 j (by omega)
    refine ⟨g, rfl, e2, (Array.getElem?_eq_some_iff.1 e3).1, ?_⟩
    rw [hc]; simp [scells, hj]
theorem OwnS.empty (w : World) {B b : Nat} (hb : w.heap.size = b) (hB : B ≤ w.heap.size) : OwnS (w.alloc (.cells #[] 9)) B (.slice (some ⟨b, 0, none⟩) 0 0) [] := by
  subst hb; exact World.ownsRow_lit (base := B) (e := 9) (size := 1) w #[] 0 hB (by simp [maxLen]) (by simp)
theorem wpl_app_str {ops : Array Oper} {rest : List Oper} {o : Oper} {a : Act} {W : World} {Q : Exit → Act → World → Prop} (hgd : o.guard = none) (s x : Operand)
    (ho : o.op = .call { callee := .builtin .append, args := #[s, x], argTypes := #[136, 136] }) (B : Nat) (v : Value) (xs : List ByteArray) (y : ByteArray) (hs : a.eval s = v) (hown : OwnS W B v xs)
    (b off : Nat) (hx : a.eval x = .slice (some ⟨b, off, none⟩) 1 1) (hc : W.cell? ⟨b, off, none⟩ = some (.string y)) (hl : xs.length ≤ 1000000000000) (hB : B ≤ W.heap.size)
    (h : ∀ v' w', OwnS w' B v' (xs ++ [y]) → W.grownBy w' v.ownBlock → (v'.ownBlock = v.ownBlock ∨ v'.ownBlock = some W.heap.size) → wpList Tryz.prog ops Q rest (a.put o.dst v') w') : wpList Tryz.prog ops Q (o :: rest) a W := by
  refine wpList_plain hgd fun _ hK => ?_
  refine app_gen s x 136 9 (.string ⟨#[]⟩) 1 16 ho Tryz.underlying136 infoStr rfl (by decide) B v xs.length (scells xs) hs hown ⟨b, off, none⟩ 1 1 [.string y] hx rfl ?_ ?_ ?_ ?_ hB ?_
  · intro j u hj
    cases j with
    | zero => simp at hj; subst hj; simpa [Addr.add] using hc
    | succ j => simp at hj
  · intro u hu; simp at hu; subst hu; rfl
  · simp [maxLen]; omega
  · omega
  · intro v' w' h1 h2 h3
    refine hK _ _ (h v' w' ?_ h2 h3)
    unfold OwnS
    have e : scells (xs ++ [y]) = scells xs ++ [.string y] := by simp [scells]
    rw [e, List.length_append]
    exact h1
/-- the parts of a text so far, and where the next one begins -/
def bAt (s : ByteArray) (k : Nat) : UInt8 := s.data.toList.getD k 0
theorem bAt_eq (s : ByteArray) (k : Nat) (h : k < s.size) : s[k] = bAt s k := by
  have : k < s.data.size := h
  simp only [bAt, List.getD_eq_getElem?_getD, Array.getElem?_toList]
  rw [Array.getElem?_eq_getElem this]
  rfl
def spSt (s : ByteArray) (c : UInt8) : Nat → List ByteArray × Nat
  | 0 => ([], 0)
  | k + 1 => if bAt s k = c then ((spSt s c k).1 ++ [s.extract (spSt s c k).2 k], k + 1) else spSt s c k
def splitV (s : ByteArray) (c : UInt8) : List ByteArray := (spSt s c s.size).1 ++ [s.extract (spSt s c s.size).2 s.size]
theorem spSt_le (s : ByteArray) (c : UInt8) : ∀ k, (spSt s c k).2 ≤ k ∧ (spSt s c k).1.length ≤ k
  | 0 => ⟨Nat.le_refl _, Nat.le_refl _⟩
  | k + 1 => by
    have h := spSt_le s c k
    unfold spSt
    split
    · exact ⟨Nat.le_refl _, by simp; omega⟩
    · omega
theorem u8_eq (x y : UInt8) : ((x.toNat : Int) == (y.toNat : Int)) = decide (x = y) := by
  rw [Bool.eq_iff_iff, beq_iff_eq, decide_eq_true_eq, Int.ofNat_inj, UInt8.toNat_inj]
set_option maxRecDepth 100000 in
set_option maxHeartbeats 1000000 in
theorem l01Split_c (s : ByteArray) (c : UInt8) (w : World) (hs : s.size ≤ 1000000) :
    Calls Tryz.prog 144 #[.string s, .int .u8 c.toNat] w fun e w' => ∃ v, e = .returned v ∧ OwnS w' w.heap.size v (splitV s c) ∧ Below w.heap.size w w' := by
  go_enter Tryz.func144, Tryz.ntmps144
  go_wp2_with fail
  go_loopw [5, 6, 7] (fun v at_ i wr => ∃ k p ss, k ≤ s.size ∧ i = .int .i64 (k : Nat) ∧ at_ = .int .i64 (p : Nat) ∧ p ≤ k ∧ Hid (spSt s c k = (ss, p)) ∧ Hid (OwnS wr w.heap.size v ss) ∧ Hid (Below w.heap.size w wr)) (fun _ _ i _ => s.size - (intOf i).toNat)
  case atStart => exact ⟨0, 0, [], by omega, rfl, rfl, Nat.le_refl _, rfl, OwnS.empty w rfl (Nat.le_refl _), below_al (Below.refl _ _)⟩
  case round =>
    obtain ⟨k, p, ss, hk, rfl, rfl, hp, HS, HO, HB⟩ := hrel
    have HL : Hid (ss.length ≤ k) := by have := (spSt_le s c k).2; rw [HS.out] at this; exact this
    obtain ⟨A0, c0, rfl⟩ := HO.out.shape
    have HW := Lib.hid HB.out.size
    by_cases h1 : k < s.size
    · have HB1 := Lib.hid (bAt_eq s k h1)
      by_cases hc : s[k] = c
      · have HS2 : Hid (spSt s c (k + 1) = (ss ++ [s.extract p k], k + 1)) := by
          show spSt s c (k + 1) = _
          rw [spSt, HS.out, if_pos (by rw [← HB1.out]; exact hc)]
        have hq : s[k].toNat = c.toNat := by rw [hc]
        clear hc
        go_wp2_with (at_builtin; refine Hold.of ?_)
        refine Hold.to ?_
        refine wpl_app_str rfl (.tmp 20) (.tmp 25) rfl w.heap.size _ ss (s.extract p k) rfl (HO.out.below (below_al (Below.refl _ _))) wr.heap.size 0 rfl (cell_alloc_at _ _ _ _ _ rfl) (by have := HL.out; omega) (by have := HW.out; simp; omega) (fun v' w' h1 h2 h3 => ?_)
        have h4 := Below.grown (below_al HB.out) h2 (by have := HW.out; simp; omega) (fun j hj => (HO.out.lt j hj).1)
        have H1 := Lib.hid h1
        have H4 := Lib.hid h4
        clear h1 h2 h3 h4
        go_wp2_with fail
        go_roundw
        case rel => exact ⟨k + 1, k + 1, _, by omega, by go_num, by go_num, by omega, HS2, H1, H4⟩
        case measure => simp [intOf]; omega
      · have HS2 : Hid (spSt s c (k + 1) = (ss, p)) := by
          show spSt s c (k + 1) = _
          rw [spSt, HS.out, if_neg (by rw [← HB1.out]; exact hc)]
        have hq : ((s[k].toNat : Int) == (c.toNat : Int)) = false := by rw [u8_eq, decide_eq_false hc]
        clear hc
        go_wp2_with fail
        go_roundw
        case rel => exact ⟨k + 1, p, _, by omega, by go_num, rfl, by omega, HS2, HO, HB⟩
        case measure => simp [intOf]; omega
    · obtain rfl : k = s.size := by omega
      have HV : Hid (splitV s c = ss ++ [s.extract p s.size]) := by show splitV s c = _; unfold splitV; rw [HS.out]
      go_wp2_with (at_builtin; refine Hold.of ?_)
      refine Hold.to ?_
      refine wpl_app_str rfl (.tmp 29) (.tmp 33) rfl w.heap.size _ ss (s.extract p s.size) rfl (HO.out.below (below_al (Below.refl _ _))) wr.heap.size 0 rfl (cell_alloc_at _ _ _ _ _ rfl) (by have := HL.out; omega) (by have := HW.out; simp; omega) (fun v' w' h1 h2 h3 => ?_)
      have h4 := Below.grown (below_al HB.out) h2 (by have := HW.out; simp; omega) (fun j hj => (HO.out.lt j hj).1)
      have H1 := Lib.hid h1
      have H4 := Lib.hid h4
      clear h1 h2 h3 h4
      go_wp2_with fail
      go_ret
      exact ⟨_, rfl, by rw [HV.out]; exact H1.out, H4.out⟩
/-- the number so far, or none if a sign is no digit -/
def nuSt (s : ByteArray) : Nat → Option Int
  | 0 => some 0
  | k + 1 => match nuSt s k with
    | none => none
    | some n => if (bAt s k).toNat < 48 ∨ 57 < (bAt s k).toNat then none else some (n * 10 + ((bAt s k).toNat - 48 : Int))
def numB (s : ByteArray) : Int := if s.size = 0 ∨ 9 < s.size ∨ (1 < s.size ∧ bAt s 0 = 48) then -1 else (nuSt s s.size).getD (-1)
theorem nuSt_none (s : ByteArray) {k : Nat} (h : nuSt s k = none) : ∀ m, k ≤ m → nuSt s m = none
  | 0, hm => by obtain rfl : k = 0 := by omega
                exact h
  | m + 1, hm => by
    by_cases e : k = m + 1
    · subst e; exact h
    · unfold nuSt; rw [nuSt_none s h m (by omega)]
theorem nuSt_rng (s : ByteArray) : ∀ k n, nuSt s k = some n → 0 ≤ n ∧ n < 10 ^ k
  | 0, n, h => by simp [nuSt] at h; subst h; simp
  | k + 1, n, h => by
    unfold nuSt at h
    split at h
    · cases h
    · rename_i m hm
      have := nuSt_rng s k m hm
      split at h
      · cases h
      · rename_i hd
        injection h with h
        subst h
        have e : (10 : Int) ^ (k + 1) = 10 ^ k * 10 := Int.pow_succ ..
        omega
set_option maxRecDepth 100000 in
set_option maxHeartbeats 1000000 in
theorem l01Number_c (s : ByteArray) (w : World) (hs : s.size ≤ 1000000) :
    Calls Tryz.prog 145 #[.string s] w fun e w' => e = .returned (.int .i64 (numB s)) ∧ w = w' := by
  by_cases h0 : s.size = 0 ∨ 9 < s.size ∨ (1 < s.size ∧ bAt s 0 = 48)
  · have HV : Hid (numB s = -1) := by show numB s = -1; unfold numB; rw [if_pos h0]
    rcases h0 with h0 | h0 | ⟨h0, h1⟩
    · have h0' : ((s.size : Int) == 0) = true := by simp [h0]
      go_enter Tryz.func145, Tryz.ntmps145
      go_wp2_with fail
      go_ret
      exact ⟨by rw [HV.out]; rfl, rfl⟩
    · have h0' : ((s.size : Int) == 0) = false := by rw [beq_eq_false_iff_ne]; omega
      have h0'' : (9 : Int) < (s.size : Int) := by omega
      go_enter Tryz.func145, Tryz.ntmps145
      go_wp2_with fail
      go_ret
      exact ⟨by rw [HV.out]; rfl, rfl⟩
    · by_cases h9 : 9 < s.size
      · have h0' : ((s.size : Int) == 0) = false := by rw [beq_eq_false_iff_ne]; omega
        have h0'' : (9 : Int) < (s.size : Int) := by omega
        clear h1
        go_enter Tryz.func145, Tryz.ntmps145
        go_wp2_with fail
        go_ret
        exact ⟨by rw [HV.out]; rfl, rfl⟩
      · have h0' : ((s.size : Int) == 0) = false := by rw [beq_eq_false_iff_ne]; omega
        have h0'' : ¬ ((9 : Int) < (s.size : Int)) := by omega
        have h2 : (1 : Int) < (s.size : Int) := by omega
        have h3 : s[0].toNat = 48 := by rw [bAt_eq s 0 (by omega), h1]; rfl
        clear h1
        go_enter Tryz.func145, Tryz.ntmps145
        go_wp2_with fail
        go_ret
        exact ⟨by rw [HV.out]; rfl, rfl⟩
  · have HV : Hid (numB s = (nuSt s s.size).getD (-1)) := by show numB s = _; unfold numB; rw [if_neg h0]
    have h0' : ((s.size : Int) == 0) = false := by rw [beq_eq_false_iff_ne]; omega
    have h9 : s.size ≤ 9 := by omega
    have h0'' : ¬ ((9 : Int) < (s.size : Int)) := by omega
    by_cases h1 : 1 < s.size
    · have h2 : (1 : Int) < (s.size : Int) := by omega
      have hp0 : 0 < s.size := by omega
      have h3 : (((s[0]'hp0).toNat : Int) == 48) = false := by
        have : bAt s 0 ≠ 48 := fun e => h0 (.inr (.inr ⟨h1, e⟩))
        rw [bAt_eq s 0 hp0]
        exact (u8_eq (bAt s 0) 48).trans (decide_eq_false this)
      clear h0
      go_enter Tryz.func145, Tryz.ntmps145
      go_wp2_with fail
      go_loopw [3, 4] (fun v i wr => ∃ (k : Nat) (n : Int), k ≤ s.size ∧ i = .int .i64 (k : Nat) ∧ v = .int .i64 n ∧ Hid (nuSt s k = some n) ∧ Hid (wr = w)) (fun _ i _ => s.size - (intOf i).toNat)
      case atStart => exact ⟨0, 0, by omega, rfl, rfl, rfl, rfl⟩
      case round =>
        obtain ⟨k, n, hk, rfl, rfl, HS, HW⟩ := hrel
        obtain ⟨hn0, hn1⟩ : 0 ≤ n ∧ n ≤ 1000000000 := by
          have h := nuSt_rng s k n HS.out
          have h2 : (10 : Int) ^ k ≤ 10 ^ 9 := by
            have := Nat.pow_le_pow_right (n := 10) (by omega) (Nat.le_trans hk h9)
            exact_mod_cast this
          omega
        by_cases h1 : k < s.size
        · have HB1 := Lib.hid (bAt_eq s k h1)
          by_cases hc : s[k].toNat < 48
          · have HS2 : Hid (nuSt s (k + 1) = none) := by show nuSt s (k + 1) = _; unfold nuSt; rw [HS.out]; simp only []; rw [if_pos (.inl (by rw [← HB1.out]; exact hc))]
            have HV2 : Hid (numB s = -1) := by show numB s = -1; rw [HV.out, nuSt_none s HS2.out s.size (by omega)]; rfl
            have hc2 : (s[k].toNat : Int) < 48 := by omega
            go_wp2_with fail
            go_ret
            exact ⟨by rw [HV2.out]; rfl, HW.out.symm⟩
          · by_cases hd : 57 < s[k].toNat
            · have HS2 : Hid (nuSt s (k + 1) = none) := by show nuSt s (k + 1) = _; unfold nuSt; rw [HS.out]; simp only []; rw [if_pos (.inr (by rw [← HB1.out]; exact hd))]
              have HV2 : Hid (numB s = -1) := by show numB s = -1; rw [HV.out, nuSt_none s HS2.out s.size (by omega)]; rfl
              have hc2 : ¬ ((s[k].toNat : Int) < 48) := by omega
              have hd2 : (57 : Int) < (s[k].toNat : Int) := by omega
              go_wp2_with fail
              go_ret
              exact ⟨by rw [HV2.out]; rfl, HW.out.symm⟩
            · have HS2 : Hid (nuSt s (k + 1) = some (n * 10 + ((s[k].toNat : Int) - 48))) := by show nuSt s (k + 1) = _; unfold nuSt; rw [HS.out]; simp only []; rw [if_neg (by rw [← HB1.out]; omega), ← HB1.out]
              have hc2 : ¬ ((s[k].toNat : Int) < 48) := by omega
              have hd2 : ¬ ((57 : Int) < (s[k].toNat : Int)) := by omega
              clear HB1
              go_wp2_with fail
              go_roundw
              case rel => exact ⟨k + 1, _, by omega, by go_num, rfl, HS2, HW⟩
              case measure => simp [intOf]; omega
        · obtain rfl : k = s.size := by omega
          have HV2 : Hid (numB s = n) := by show numB s = n; rw [HV.out, HS.out]; rfl
          go_wp2_with fail
          go_ret
          exact ⟨by rw [HV2.out]; rfl, HW.out.symm⟩
    · have h2 : ¬ ((1 : Int) < (s.size : Int)) := by omega
      clear h0
      go_enter Tryz.func145, Tryz.ntmps145
      go_wp2_with fail
      go_loopw [3, 4] (fun v i wr => ∃ (k : Nat) (n : Int), k ≤ s.size ∧ i = .int .i64 (k : Nat) ∧ v = .int .i64 n ∧ Hid (nuSt s k = some n) ∧ Hid (wr = w)) (fun _ i _ => s.size - (intOf i).toNat)
      case atStart => exact ⟨0, 0, by omega, rfl, rfl, rfl, rfl⟩
      case round =>
        obtain ⟨k, n, hk, rfl, rfl, HS, HW⟩ := hrel
        obtain ⟨hn0, hn1⟩ : 0 ≤ n ∧ n ≤ 1000000000 := by
          have h := nuSt_rng s k n HS.out
          have h2 : (10 : Int) ^ k ≤ 10 ^ 9 := by
            have := Nat.pow_le_pow_right (n := 10) (by omega) (Nat.le_trans hk h9)
            exact_mod_cast this
          omega
        by_cases h1 : k < s.size
        · have HB1 := Lib.hid (bAt_eq s k h1)
          by_cases hc : s[k].toNat < 48
          · have HS2 : Hid (nuSt s (k + 1) = none) := by show nuSt s (k + 1) = _; unfold nuSt; rw [HS.out]; simp only []; rw [if_pos (.inl (by rw [← HB1.out]; exact hc))]
            have HV2 : Hid (numB s = -1) := by show numB s = -1; rw [HV.out, nuSt_none s HS2.out s.size (by omega)]; rfl
            have hc2 : (s[k].toNat : Int) < 48 := by omega
            go_wp2_with fail
            go_ret
            exact ⟨by rw [HV2.out]; rfl, HW.out.symm⟩
          · by_cases hd : 57 < s[k].toNat
            · have HS2 : Hid (nuSt s (k + 1) = none) := by show nuSt s (k + 1) = _; unfold nuSt; rw [HS.out]; simp only []; rw [if_pos (.inr (by rw [← HB1.out]; exact hd))]
              have HV2 : Hid (numB s = -1) := by show numB s = -1; rw [HV.out, nuSt_none s HS2.out s.size (by omega)]; rfl
              have hc2 : ¬ ((s[k].toNat : Int) < 48) := by omega
              have hd2 : (57 : Int) < (s[k].toNat : Int) := by omega
              go_wp2_with fail
              go_ret
              exact ⟨by rw [HV2.out]; rfl, HW.out.symm⟩
            · have HS2 : Hid (nuSt s (k + 1) = some (n * 10 + ((s[k].toNat : Int) - 48))) := by show nuSt s (k + 1) = _; unfold nuSt; rw [HS.out]; simp only []; rw [if_neg (by rw [← HB1.out]; omega), ← HB1.out]
              have hc2 : ¬ ((s[k].toNat : Int) < 48) := by omega
              have hd2 : ¬ ((57 : Int) < (s[k].toNat : Int)) := by omega
              clear HB1
              go_wp2_with fail
              go_roundw
              case rel => exact ⟨k + 1, _, by omega, by go_num, rfl, HS2, HW⟩
              case measure => simp [intOf]; omega
        · obtain rfl : k = s.size := by omega
          have HV2 : Hid (numB s = n) := by show numB s = n; rw [HV.out, HS.out]; rfl
          go_wp2_with fail
          go_ret
          exact ⟨by rw [HV2.out]; rfl, HW.out.symm⟩

end Go.Proofs.YtnoehaphbpkpjaaGreat
