/- Contracts and lemmas for the statements of this seat, written for this claim; each theorem states its own conditions. -/
import Derived.Test.YtkgnejhflnekaaaGreatMuY2
set_option linter.unusedVariables false
set_option linter.unusedSimpArgs false
namespace Go.Proofs.YtkgnejhflnekaaaGreat
open Go.RowKit
theorem str_ne {a b : ByteArray} (h : ¬ a = b) : (a.toList == b.toList) = false := by
  rw [beq_eq_false_iff_ne, ByteArray.toList_eq, ByteArray.toList_eq]
  intro e
  exact h (ByteArray.ext (Array.toList_inj.1 e))
def namesL : List ByteArray := [⟨#[112, 108, 97, 105, 110]⟩, ⟨#[99, 104, 101, 115, 115]⟩, ⟨#[119, 105, 114, 101, 115]⟩, ⟨#[98, 101, 110, 100, 115]⟩, ⟨#[115, 117, 109, 115]⟩, ⟨#[99, 97, 114, 114, 121]⟩, ⟨#[119, 97, 108, 108]⟩, ⟨#[119, 104, 101, 101, 108]⟩]
def knownL : List ByteArray := [⟨#[49, 58, 48, 48, 48, 48]⟩, ⟨#[50, 58, 48, 48, 49, 49, 44, 49, 49, 48, 48]⟩, ⟨#[50, 58, 48, 48, 48, 48, 44, 48, 49, 48, 49, 44, 49, 48, 49, 48, 44, 49, 49, 49, 49]⟩, ⟨#[50, 58, 48, 48, 48, 48, 44, 48, 49, 49, 48, 44, 49, 48, 48, 49, 44, 49, 49, 49, 49]⟩, ⟨#[50, 58, 48, 48, 48, 48, 44, 48, 49, 49, 49, 44, 49, 48, 49, 49, 44, 49, 49, 48, 48]⟩, ⟨#[50, 58, 48, 48, 48, 48, 44, 48, 48, 49, 49, 44, 48, 49, 48, 49, 44, 49, 49, 49, 48]⟩, ⟨#[50, 58, 48, 48, 48, 49]⟩, ⟨#[51, 58, 48, 49, 50, 48, 44, 49, 50, 48, 49, 44, 50, 48, 49, 50]⟩]
/-- the set with a name -/
def namedTo (s : ByteArray) : Nat → Option (Int × List T4)
  | 0 => none
  | k + 1 => match namedTo s k with
    | some x => some x
    | none => if namesL.getD k ⟨#[]⟩ = s then some (rdC (readB (knownL.getD k ⟨#[]⟩)), rdT (readB (knownL.getD k ⟨#[]⟩))) else none
def namedB (s : ByteArray) : Option (Int × List T4) := namedTo s 8
theorem namedTo_some (s : ByteArray) {k : Nat} {x : Int × List T4} (h : namedTo s k = some x) : ∀ m, k ≤ m → namedTo s m = some x
  | 0, hm => by obtain rfl : k = 0 := by omega
                exact h
  | m + 1, hm => by
    by_cases e : k = m + 1
    · subst e; exact h
    · unfold namedTo; rw [namedTo_some s h m (by omega)]
set_option maxRecDepth 100000 in
set_option maxHeartbeats 1000000 in
theorem l01Names_c (w : World) : Calls Tryz.prog 167 #[] w fun e w' => e = .returned (.slice (some ⟨w.heap.size, 0, none⟩) 8 8) ∧ OwnS w' w.heap.size (.slice (some ⟨w.heap.size, 0, none⟩) 8 8) namesL ∧ Below w.heap.size w w' := by
  go_enter Tryz.func167, Tryz.ntmps167
  go_wp2
  go_ret
  exact ⟨rfl, World.ownsRow_lit (base := w.heap.size) (e := 9) (size := 1) w (scells namesL).toArray 8 (Nat.le_refl _) (by simp [maxLen]) (by simp [scells, namesL]), below_al (Below.refl _ _)⟩
set_option maxRecDepth 100000 in
set_option maxHeartbeats 1000000 in
theorem l01Named_c (s : ByteArray) (w : World) :
    Calls Tryz.prog 168 #[.string s] w (RetSB w (namedB s)) := by
  go_enter Tryz.func168, Tryz.ntmps168
  go_wp2_with fail
  refine (l01Names_c _).mono ?_
  rintro e w1 ⟨rfl, hO, hb⟩
  have HB : Hid (Below w.heap.size w w1) := (below_al (Below.refl _ _)).trans (hb.mono (by simp))
  have HZ : Hid (Blk w1 w.heap.size [.int .i64 0, .slice none 0 0] 26) := (Blk.newA w _ _).under hb
  have HS1 : Hid (w.heap.size < w1.heap.size) := by have := hb.size; simp at this; exact this
  have HO := Lib.hid hO
  clear hO hb
  go_wp2_with fail
  have HK : Hid (OwnS (w1.alloc (.cells (scells knownL).toArray 9)) w1.heap.size (.slice (some ⟨w1.heap.size, 0, none⟩) 8 8) knownL) := World.ownsRow_lit (base := w1.heap.size) (e := 9) (size := 1) w1 (scells knownL).toArray 8 (Nat.le_refl _) (by simp [maxLen]) (by simp [scells, knownL])
  rw [show (scells knownL).toArray = _ from rfl] at HK
  obtain ⟨wK, hwK⟩ : ∃ wK, wK = w1.alloc (.cells (scells knownL).toArray 9) := ⟨_, rfl⟩
  have HO2 : Hid (OwnS wK w.heap.size (.slice (some ⟨(w.alloc (.cells #[.int .i64 0, .slice none 0 0] 26)).heap.size, 0, none⟩) 8 8) namesL) := by rw [hwK]; exact (HO.out.lower (by simp)).below (below_al (Below.refl _ _))
  have HBK : Hid (Below w1.heap.size w1 wK) := by rw [hwK]; exact below_al (Below.refl _ _)
  change Hid (OwnS (w1.alloc (.cells (scells knownL).toArray 9)) _ _ _) at HK
  rw [← hwK] at HK
  change Code.wp _ _ _ _ (w1.alloc (.cells (scells knownL).toArray 9))
  rw [← hwK]
  clear hwK HO
  have HBw : Hid (Below w.heap.size w wK) := HB.out.trans (HBK.out.mono HB.out.size)
  have HZK : Hid (Blk wK w.heap.size [.int .i64 0, .slice none 0 0] 26) := HZ.out.under HBK.out
  have HSK : Hid (w.heap.size < wK.heap.size) := Nat.lt_of_lt_of_le HS1.out HBK.out.size
  have hsz : (w.alloc (.cells #[.int .i64 0, .slice none 0 0] 26)).heap.size = w.heap.size + 1 := by simp
  rw [hsz] at HO2
  clear hsz
  generalize w1.heap.size = gK at *
  have HNl : Hid (namesL.length = 8) := rfl
  have HKl : Hid (knownL.length = 8) := rfl
  have HKs : Hid (∀ p ∈ knownL, p.size ≤ 100000) := by
    show ∀ p ∈ knownL, p.size ≤ 100000
    decide
  have Hdef : Hid (∀ k, namedTo s (k + 1) = match namedTo s k with
    | some x => some x
    | none => if namesL.getD k ⟨#[]⟩ = s then some (rdC (readB (knownL.getD k ⟨#[]⟩)), rdT (readB (knownL.getD k ⟨#[]⟩))) else none) := fun _ => rfl
  have Hnm : Hid (namedB s = namedTo s 8) := rfl
  generalize namesL = N at *
  generalize knownL = K at *
  go_loopw [6] (fun i wr => ∃ k : Nat, k ≤ 8 ∧ i = .int .i64 (k : Nat) ∧ Hid (Below wK.heap.size wK wr) ∧ Hid (namedTo s k = none)) (fun i _ => 8 - (intOf i).toNat)
  case atStart => exact ⟨0, by omega, rfl, Below.refl _ _, rfl⟩
  case round =>
    obtain ⟨k, hk, rfl, HBr, HN⟩ := hrel
    by_cases h8 : k < 8
    · have hkN : k < N.length := by rw [HNl.out]; exact h8
      have hkK : k < K.length := by rw [HKl.out]; exact h8
      obtain ⟨_, e1, -, hlt, c1⟩ := (HO2.out.below HBr.out).at_ k hkN
      injection e1 with e1
      injection e1 with e1
      subst e1
      obtain ⟨_, e1, -, hlt2, c2⟩ := (HK.out.below HBr.out).at_ k hkK
      injection e1 with e1
      injection e1 with e1
      subst e1
      have HSt : Hid (namedTo s (k + 1) = if N[k] = s then some (rdC (readB K[k]), rdT (readB K[k])) else none) := by
        show _ = _
        rw [Hdef.out, HN.out]
        simp [hkN, hkK]
      have HKk := Lib.hid (HKs.out _ (List.getElem_mem hkK))
      generalize N[k] = nm at *
      generalize K[k] = kn at *
      by_cases hc : nm = s
      · have HV : Hid (namedB s = some (rdC (readB kn), rdT (readB kn))) := by
          show _ = _
          rw [Hnm.out]
          exact namedTo_some s (by rw [HSt.out, if_pos hc]) 8 (by omega)
        have HRd := Lib.hid (fun w => l01Read_c kn w HKk.out)
        have HW1 : Hid (Below w.heap.size w wr) := HBw.out.trans (HBr.out.mono HBw.out.size)
        have HZr := Lib.hid (HZK.out.under HBr.out)
        have Hsr : Hid (w.heap.size < wr.heap.size) := Nat.lt_of_lt_of_le HSK.out HBr.out.size
        generalize readB kn = o at *
        clear HB HZ HS1 HBK HBw HZK HSK HO2 HK HBr HSt HKs HKl HNl Hdef HN Hnm
        go_wp2_with fail
        refine (HRd.out _).mono ?_
        rintro e w5 ⟨Av, cv, rfl, hO5, hb5⟩
        have HW5 : Hid (Below w.heap.size w w5) := HW1.out.trans (hb5.mono HW1.out.size)
        have HZ5 := Lib.hid (HZr.out.under hb5)
        have HO5 := Lib.hid (hO5.lower (Nat.succ_le_of_lt Hsr.out))
        have Hs5 : Hid (w.heap.size < w5.heap.size) := Nat.lt_of_lt_of_le Hsr.out hb5.size
        generalize rdC o = cc at *
        generalize rdT o = tt at *
        clear hO5 hb5 c1 c2 hc HRd HW1 HZr Hsr
        have y0 := HZ5.out.cell 0 (by simp)
        have y1 := HZ5.out.cell 1 (by simp)
        have g0 := HZ5.out.frozen 0
        have g1 := HZ5.out.frozen 1
        simp only [List.getElem_cons_zero, List.getElem_cons_succ] at y0 y1
        have hlt5 : w.heap.size < w5.heap.size := Hs5.out
        go_wp2
        have HZ6 := Lib.hid (((HZ5.out.set 0 (.int .i64 cc)).set 1 (.slice Av tt.length cv)).alloc (.cells #[.int .i64 cc, .slice Av tt.length cv] 26))
        have x0 := HZ6.out.cell 0 (by simp)
        have x1 := HZ6.out.cell 1 (by simp)
        simp only [List.set_cons_zero, List.set_cons_succ, List.getElem_cons_zero, List.getElem_cons_succ] at x0 x1
        refine bodyPost_ret (v := .tuple #[.agg #[.int .i64 cc, .slice Av tt.length cv], .bool true]) (by simp [results, Tryz.results168, go_sem, x0, x1]) rfl ?_
        have hW := HW5.out
        exact ⟨Av, cv, by rw [HV.out]; rfl, by rw [HV.out]; exact OwnT.lower (((HO5.out.other w.heap.size 0 (by omega) _).other w.heap.size 1 (by omega) _).alloc _) (by omega), by (repeat (first | (with_reducible exact Below.refl _ _) | (with_reducible assumption) | (with_reducible refine below_al ?_) | (with_reducible refine below_dr ?_) | (with_reducible refine below_drN ?_) | (with_reducible refine below_set ?_ (by first | exact Nat.le_refl _ | (dsimp only; omega) | omega)) | (with_reducible refine below_tr (by with_reducible assumption) ?_)))⟩
      · have HN2 : Hid (namedTo s (k + 1) = none) := by show _ = _; rw [HSt.out, if_neg hc]
        have hq := str_ne hc
        clear c2 HSt
        go_wp2_with fail
        go_roundw
        case rel => exact ⟨k + 1, by omega, by go_num, HBr, HN2⟩
        case measure => simp [intOf]; omega
    · obtain rfl : k = 8 := by omega
      have HV : Hid (namedB s = none) := by show _ = _; rw [Hnm.out, HN.out]
      have HW1 : Hid (Below w.heap.size w wr) := HBw.out.trans (HBr.out.mono HBw.out.size)
      have HZr := Lib.hid (HZK.out.under HBr.out)
      clear HB HZ HS1 HBK HBw HZK HSK HO2 HK HBr HKs HKl HNl Hdef HN Hnm
      have y0 := HZr.out.cell 0 (by simp)
      have y1 := HZr.out.cell 1 (by simp)
      have g0 := HZr.out.frozen 0
      have g1 := HZr.out.frozen 1
      simp only [List.getElem_cons_zero, List.getElem_cons_succ] at y0 y1
      go_wp2
      refine bodyPost_ret (v := .tuple #[.agg #[.int .i64 0, .slice none 0 0], .bool false]) (by
        have x0 := ((HZr.out.set 0 (.int .i64 0)).set 1 (.slice none 0 0)).cell 0 (by simp)
        have x1 := ((HZr.out.set 0 (.int .i64 0)).set 1 (.slice none 0 0)).cell 1 (by simp)
        simp only [List.set_cons_zero, List.set_cons_succ, List.getElem_cons_zero, List.getElem_cons_succ] at x0 x1
        simp [results, Tryz.results168, go_sem, x0, x1]) rfl ?_
      exact ⟨none, 0, by rw [HV.out]; rfl, by rw [HV.out]; exact World.ownsRow_nil _ _ _ _, by have := HW1.out; (repeat (first | (with_reducible exact Below.refl _ _) | (with_reducible assumption) | (with_reducible refine below_al ?_) | (with_reducible refine below_dr ?_) | (with_reducible refine below_drN ?_) | (with_reducible refine below_set ?_ (by first | exact Nat.le_refl _ | (dsimp only; omega) | omega)) | (with_reducible refine below_tr (by with_reducible assumption) ?_)))⟩

end Go.Proofs.YtkgnejhflnekaaaGreat
