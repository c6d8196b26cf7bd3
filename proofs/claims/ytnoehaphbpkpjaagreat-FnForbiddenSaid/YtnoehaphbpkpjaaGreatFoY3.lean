/- Contracts and lemmas for the statements of this seat, written for this claim; each theorem states its own conditions. -/
import Derived.Test.YtnoehaphbpkpjaaGreatFoY2
import Derived.Test.YtnoehaphbpkpjaaGreatFoSr
import Derived.Test.YtnoehaphbpkpjaaGreatFoJ3
import Derived.Test.YtnoehaphbpkpjaaGreatFoBy
import Derived.Test.YtnoehaphbpkpjaaGreatFoTd1
set_option linter.unusedVariables false
set_option linter.unusedSimpArgs false
namespace Go.Proofs.YtnoehaphbpkpjaaGreat
open Go.RowKit
theorem str_ne {a b : ByteArray} (h : ¬ a = b) : (a.toList == b.toList) = false := by
  rw [beq_eq_false_iff_ne, ByteArray.toList_eq, ByteArray.toList_eq]
  intro e
  exact h (ByteArray.ext (Array.toList_inj.1 e))
def namesL : List ByteArray := [⟨#[112, 108, 97, 105, 110]⟩, ⟨#[99, 104, 101, 115, 115]⟩, ⟨#[119, 105, 114, 101, 115]⟩, ⟨#[98, 101, 110, 100, 115]⟩, ⟨#[115, 117, 109, 115]⟩, ⟨#[99, 97, 114, 114, 121]⟩, ⟨#[119, 97, 108, 108]⟩, ⟨#[119, 104, 101, 101, 108]⟩]
def knownL : List ByteArray := [⟨#[49, 58, 48, 48, 48, 48]⟩, ⟨#[50, 58, 48, 48, 49, 49, 44, 49, 49, 48, 48]⟩, ⟨#[50, 58, 48, 48, 48, 48, 44, 48, 49, 48, 49, 44, 49, 48, 49, 48, 44, 49, 49, 49, 49]⟩, ⟨#[50, 58, 48, 48, 48, 48, 44, 48, 49, 49, 48, 44, 49, 48, 48, 49, 44, 49, 49, 49, 49]⟩, ⟨#[50, 58, 48, 48, 48, 48, 44, 48, 49, 49, 49, 44, 49, 48, 49, 49, 44, 49, 49, 48, 48]⟩, ⟨#[50, 58, 48, 48, 48, 48, 44, 48, 48, 49, 49, 44, 48, 49, 48, 49, 44, 49, 49, 49, 48]⟩, ⟨#[50, 58, 48, 48, 48, 49]⟩, ⟨#[51, 58, 48, 49, 50, 48, 44, 49, 50, 48, 49, 44, 50, 48, 49, 50]⟩]
/-- the set with a name -/
def namedTo (s : ByteArray) : Nat → Option (Int × List T4)
  | 0 => none
  | k + 1 => match namedTo s k with
    | some x => some x
    | none => if namesL.getD k ⟨#[]⟩ = s then some (rdC (readB (knownL.getD k ⟨#[]⟩)), rdT (readB (knownL.getD k ⟨#[]⟩))) else none
def namedB (s : ByteArray) : Option (Int × List T4) := namedTo s 8
theorem namedTo_some (s : ByteArray) {k : Nat} {x : Int × List T4} (h : namedTo s k = some x) : ∀ m, k ≤ m → namedTo s m = some x
  | 0, hm => by obtain rfl : k = 0 := by omega
                exact h
  | m + 1, hm => by
    by_cases e : k = m + 1
    · subst e; exact h
    · unfold namedTo; rw [namedTo_some s h m (by omega)]
set_option maxRecDepth 100000 in
set_option maxHeartbeats 1000000 in
theorem l01Names_c (w : World) : Calls Tryz.prog 125 #[] w fun e w' => e = .returned (.slice (some ⟨w.heap.size, 0, none⟩) 8 8) ∧ OwnS w' w.heap.size (.slice (some ⟨w.heap.size, 0, none⟩) 8 8) namesL ∧ Below w.heap.size w w' := by
  go_enter Tryz.func125, Tryz.ntmps125
  go_wp2
  go_ret
  exact ⟨rfl, World.ownsRow_lit (base := w.heap.size) (e := 9) (size := 1) w (scells namesL).toArray 8 (Nat.le_refl _) (by simp [maxLen]) (by simp [scells, namesL]), below_al (Below.refl _ _)⟩
set_option maxRecDepth 100000 in
set_option maxHeartbeats 1000000 in
theorem l01Named_c (s : ByteArray) (w : World) :
    Calls Tryz.prog 126 #[.string s] w (RetSB w (namedB s)) := by
  go_enter Tryz.func126, Tryz.ntmps126
  go_wp2_with fail
  refine (l01Names_c _).mono ?_
  rintro e w1 ⟨rfl, hO, hb⟩
  have HB : Hid (Below w.heap.size w w1) := (below_al (Below.refl _ _)).trans (hb.mono (by simp))
  have HZ : Hid (Blk w1 w.heap.size [.int .i64 0, .slice none 0 0] 32) := (Blk.newA w _ _).under hb
  have HS1 : Hid (w.heap.size < w1.heap.size) := by have := hb.size; simp at this; exact this
  have HO := Lib.hid hO
  clear hO hb
  go_wp2_with fail
  have HK : Hid (OwnS (w1.alloc (.cells (scells knownL).toArray 9)) w1.heap.size (.slice (some ⟨w1.heap.size, 0, none⟩) 8 8) knownL) := World.ownsRow_lit (base := w1.heap.size) (e := 9) (size := 1) w1 (scells knownL).toArray 8 (Nat.le_refl _) (by simp [maxLen]) (by simp [scells, knownL])
  rw [show (scells knownL).toArray = _ from rfl] at HK
  obtain ⟨wK, hwK⟩ : ∃ wK, wK = w1.alloc (.cells (scells knownL).toArray 9) := ⟨_, rfl⟩
  have HO2 : Hid (OwnS wK w.heap.size (.slice (some ⟨(w.alloc (.cells #[.int .i64 0, .slice none 0 0] 32)).heap.size, 0, none⟩) 8 8) namesL) := by rw [hwK]; exact (HO.out.lower (by simp)).below (below_al (Below.refl _ _))
  have HBK : Hid (Below w1.heap.size w1 wK) := by rw [hwK]; exact below_al (Below.refl _ _)
  change Hid (OwnS (w1.alloc (.cells (scells knownL).toArray 9)) _ _ _) at HK
  rw [← hwK] at HK
  change Code.wp _ _ _ _ (w1.alloc (.cells (scells knownL).toArray 9))
  rw [← hwK]
  clear hwK HO
  have HBw : Hid (Below w.heap.size w wK) := HB.out.trans (HBK.out.mono HB.out.size)
  have HZK : Hid (Blk wK w.heap.size [.int .i64 0, .slice none 0 0] 32) := HZ.out.under HBK.out
  have HSK : Hid (w.heap.size < wK.heap.size) := Nat.lt_of_lt_of_le HS1.out HBK.out.size
  have hsz : (w.alloc (.cells #[.int .i64 0, .slice none 0 0] 32)).heap.size = w.heap.size + 1 := by simp
  rw [hsz] at HO2
  clear hsz
  generalize w1.heap.size = gK at *
  have HNl : Hid (namesL.length = 8) := rfl
  have HKl : Hid (knownL.length = 8) := rfl
  have HKs : Hid (∀ p ∈ knownL, p.size ≤ 100000) := by
    show ∀ p ∈ knownL, p.size ≤ 100000
    decide
  have Hdef : Hid (∀ k, namedTo s (k + 1) = match namedTo s k with
    | some x => some x
    | none => if namesL.getD k ⟨#[]⟩ = s then some (rdC (readB (knownL.getD k ⟨#[]⟩)), rdT (readB (knownL.getD k ⟨#[]⟩))) else none) := fun _ => rfl
  have Hnm : Hid (namedB s = namedTo s 8) := rfl
  generalize namesL = N at *
  generalize knownL = K at *
  go_loopw [6] (fun i wr => ∃ k : Nat, k ≤ 8 ∧ i = .int .i64 (k : Nat) ∧ Hid (Below wK.heap.size wK wr) ∧ Hid (namedTo s k = none)) (fun i _ => 8 - (intOf i).toNat)
  case atStart => exact ⟨0, by omega, rfl, Below.refl _ _, rfl⟩
  case round =>
    obtain ⟨k, hk, rfl, HBr, HN⟩ := hrel
    by_cases h8 : k < 8
    · have hkN : k < N.length := by rw [HNl.out]; exact h8
      have hkK : k < K.length := by rw [HKl.out]; exact h8
      obtain ⟨_, e1, -, hlt, c1⟩ := (HO2.out.below HBr.out).at_ k hkN
      injection e1 with e1
      injection e1 with e1
      subst e1
      obtain ⟨_, e1, -, hlt2, c2⟩ := (HK.out.below HBr.out).at_ k hkK
      injection e1 with e1
      injection e1 with e1
      subst e1
      have HSt : Hid (namedTo s (k + 1) = if N[k] = s then some (rdC (readB K[k]), rdT (readB K[k])) else none) := by
        show _ = _
        rw [Hdef.out, HN.out]
        simp [hkN, hkK]
      have HKk := Lib.hid (HKs.out _ (List.getElem_mem hkK))
      generalize N[k] = nm at *
      generalize K[k] = kn at *
      by_cases hc : nm = s
      · have HV : Hid (namedB s = some (rdC (readB kn), rdT (readB kn))) := by
          show _ = _
          rw [Hnm.out]
          exact namedTo_some s (by rw [HSt.out, if_pos hc]) 8 (by omega)
        have HRd := Lib.hid (fun w => l01Read_c kn w HKk.out)
        have HW1 : Hid (Below w.heap.size w wr) := HBw.out.trans (HBr.out.mono HBw.out.size)
        have HZr := Lib.hid (HZK.out.under HBr.out)
        have Hsr : Hid (w.heap.size < wr.heap.size) := Nat.lt_of_lt_of_le HSK.out HBr.out.size
        generalize readB kn = o at *
        clear HB HZ HS1 HBK HBw HZK HSK HO2 HK HBr HSt HKs HKl HNl Hdef HN Hnm
        go_wp2_with fail
        refine (HRd.out _).mono ?_
        rintro e w5 ⟨Av, cv, rfl, hO5, hb5⟩
        have HW5 : Hid (Below w.heap.size w w5) := HW1.out.trans (hb5.mono HW1.out.size)
        have HZ5 := Lib.hid (HZr.out.under hb5)
        have HO5 := Lib.hid (hO5.lower (Nat.succ_le_of_lt Hsr.out))
        have Hs5 : Hid (w.heap.size < w5.heap.size) := Nat.lt_of_lt_of_le Hsr.out hb5.size
        generalize rdC o = cc at *
        generalize rdT o = tt at *
        clear hO5 hb5 c1 c2 hc HRd HW1 HZr Hsr
        have y0 := HZ5.out.cell 0 (by simp)
        have y1 := HZ5.out.cell 1 (by simp)
        have g0 := HZ5.out.frozen 0
        have g1 := HZ5.out.frozen 1
        simp only [List.getElem_cons_zero, List.getElem_cons_succ] at y0 y1
        have hlt5 : w.heap.size < w5.heap.size := Hs5.out
        go_wp2
        have HZ6 := Lib.hid (((HZ5.out.set 0 (.int .i64 cc)).set 1 (.slice Av tt.length cv)).alloc (.cells #[.int .i64 cc, .slice Av tt.length cv] 32))
        have x0 := HZ6.out.cell 0 (by simp)
        have x1 := HZ6.out.cell 1 (by simp)
        simp only [List.set_cons_zero, List.set_cons_succ, List.getElem_cons_zero, List.getElem_cons_succ] at x0 x1
        refine bodyPost_ret (v := .tuple #[.agg #[.int .i64 cc, .slice Av tt.length cv], .bool true]) (by simp [results, Tryz.results126, go_sem, x0, x1]) rfl ?_
        have hW := HW5.out
        exact ⟨Av, cv, by rw [HV.out]; rfl, by rw [HV.out]; exact OwnT.lower (((HO5.out.other w.heap.size 0 (by omega) _).other w.heap.size 1 (by omega) _).alloc _) (by omega), by (repeat (first | (with_reducible exact Below.refl _ _) | (with_reducible assumption) | (with_reducible refine below_al ?_) | (with_reducible refine below_dr ?_) | (with_reducible refine below_drN ?_) | (with_reducible refine below_set ?_ (by first | exact Nat.le_refl _ | (dsimp only; omega) | omega)) | (with_reducible refine below_tr (by with_reducible assumption) ?_)))⟩
      · have HN2 : Hid (namedTo s (k + 1) = none) := by show _ = _; rw [HSt.out, if_neg hc]
        have hq := str_ne hc
        clear c2 HSt
        go_wp2_with fail
        go_roundw
        case rel => exact ⟨k + 1, by omega, by go_num, HBr, HN2⟩
        case measure => simp [intOf]; omega
    · obtain rfl : k = 8 := by omega
      have HV : Hid (namedB s = none) := by show _ = _; rw [Hnm.out, HN.out]
      have HW1 : Hid (Below w.heap.size w wr) := HBw.out.trans (HBr.out.mono HBw.out.size)
      have HZr := Lib.hid (HZK.out.under HBr.out)
      clear HB HZ HS1 HBK HBw HZK HSK HO2 HK HBr HKs HKl HNl Hdef HN Hnm
      have y0 := HZr.out.cell 0 (by simp)
      have y1 := HZr.out.cell 1 (by simp)
      have g0 := HZr.out.frozen 0
      have g1 := HZr.out.frozen 1
      simp only [List.getElem_cons_zero, List.getElem_cons_succ] at y0 y1
      go_wp2
      refine bodyPost_ret (v := .tuple #[.agg #[.int .i64 0, .slice none 0 0], .bool false]) (by
        have x0 := ((HZr.out.set 0 (.int .i64 0)).set 1 (.slice none 0 0)).cell 0 (by simp)
        have x1 := ((HZr.out.set 0 (.int .i64 0)).set 1 (.slice none 0 0)).cell 1 (by simp)
        simp only [List.set_cons_zero, List.set_cons_succ, List.getElem_cons_zero, List.getElem_cons_succ] at x0 x1
        simp [results, Tryz.results126, go_sem, x0, x1]) rfl ?_
      exact ⟨none, 0, by rw [HV.out]; rfl, by rw [HV.out]; exact World.ownsRow_nil _ _ _ _, by have := HW1.out; (repeat (first | (with_reducible exact Below.refl _ _) | (with_reducible assumption) | (with_reducible refine below_al ?_) | (with_reducible refine below_dr ?_) | (with_reducible refine below_drN ?_) | (with_reducible refine below_set ?_ (by first | exact Nat.le_refl _ | (dsimp only; omega) | omega)) | (with_reducible refine below_tr (by with_reducible assumption) ?_)))⟩

end Go.Proofs.YtnoehaphbpkpjaaGreat
namespace Go.Proofs.YtnoehaphbpkpjaaGreat
open Go.RowKit
def OrderDrawn (w : World) (g : Nat) (code : List Int) (n : Int) (e : Ending) (w' : World) : Prop :=
  ∃ v xs, e = .returned v ∧ OwnI w' w.heap.size v xs ∧ xs.length = n.toNat ∧ (∀ x ∈ xs, 0 ≤ x ∧ x < n) ∧ Src w' g code ∧ w.grownBy w' (some g)
theorem OwnI.grew {w w1 : World} {B g : Nat} {v : Value} {xs : List Int} (h : OwnI w B v xs) (hg : w.grownBy w1 (some g)) (hlt : g < B) : OwnI w1 B v xs :=
  h.grown hg (by cases e : v.ownBlock with | none => exact .inl rfl | some k => exact .inr (fun e2 => by injection e2 with e2; have := (World.ownsRow.lt h k e).1; omega))
theorem OwnI.maxc {w : World} {B n cx : Nat} {A : Option Addr} {xs : List Int} (h : OwnI w B (.slice A n cx) xs) : cx ≤ maxLen := by
  obtain ⟨h1, ⟨e, h2⟩ | ⟨g, cap, cur, e, _, _, h3, h4, _⟩⟩ := h
  · injection e with e1 e2 e3
    subst e3; simp [maxLen]
  · injection e with e1 e2 e3
    subst e3; exact h4
theorem OwnI.addr {w : World} {B n cx : Nat} {A : Option Addr} {xs : List Int} (h : OwnI w B (.slice A n cx) xs) (hx : 0 < xs.length) : ∃ g, A = some ⟨g, 0, none⟩ := by
  obtain ⟨h1, ⟨e, h2⟩ | ⟨g, cap, cur, e, _, _, h3, h4, _⟩⟩ := h
  · omega
  · injection e with e1 e2 e3
    exact ⟨g, e1⟩
set_option maxRecDepth 100000 in
set_option maxHeartbeats 1000000 in
theorem l01DrawOrder_c (g : Nat) (code : List Int) (n : Int) (w : World) (h : Src w g code) (hn : n ≤ 1000) :
    Calls Tryz.prog 128 #[.pointer (some ⟨g, 0, none⟩), .int .i64 n] w (OrderDrawn w g code n) := by
  have HS := Lib.hid h
  clear h
  go_enter Tryz.func128, Tryz.ntmps128
  go_wp2_with fail
  go_loopw [5, 6] (fun v i wr => ∃ (k : Nat) (xs : List Int) (g0 cx : Nat), k ≤ n.toNat ∧ i = .int .i64 (k : Nat) ∧ v = .slice (some ⟨g0, 0, none⟩) xs.length cx ∧ Hid (OwnI wr w.heap.size (.slice (some ⟨g0, 0, none⟩) xs.length cx) xs) ∧ Hid (xs.length = k) ∧ Hid (∀ x ∈ xs, 0 ≤ x ∧ x < n) ∧ Hid (Src wr g code) ∧ Hid (w.grownBy wr (some g))) (fun _ i _ => n.toNat - (intOf i).toNat)
  case atStart => exact ⟨0, [], _, _, by omega, rfl, rfl, OwnI.made w _ #[] [] rfl (Nat.le_refl _) (by simp), rfl, fun x hx => by simp at hx, HS.out.alloc _, World.grownBy_alloc w _ _⟩
  case round =>
    obtain ⟨k, xs, g0, cx, hk, rfl, rfl, HO, HL, HA, HSr, HG⟩ := hrel
    by_cases hkn : (k : Int) < n
    · have hk9 : k < 1000 := by omega
      go_wp2_with fail
      refine (l01Next_c g code _ _ HSr.out).mono ?_
      rintro e w1 ⟨r, rfl, r0, _, r1, S, G⟩
      obtain ⟨j, rfl⟩ := Int.eq_ofNat_of_zero_le r0
      have hj : j ≤ k := by have := r1 (by omega); omega
      have HO1 := Lib.hid (HO.out.grew G HS.out.lt)
      have HG1 := Lib.hid (HG.out.trans G)
      have HS1 := Lib.hid S
      have hcx := HO.out.cap
      have hL : xs.length = k := HL.out
      have hjx : j ≤ xs.length := by omega
      have hjc : j ≤ cx := by omega
      clear r0 r1 S G hL
      have HN1 : Hid ((xs.take j ++ [(k : Int)] ++ xs.drop j).length = xs.length + 1) := by show _ = _; simp; omega
      have HA2 : Hid (∀ x ∈ xs.take j ++ [(k : Int)] ++ xs.drop j, 0 ≤ x ∧ x < n) := fun x hx => by
        rcases List.mem_append.1 hx with hx | hx
        · rcases List.mem_append.1 hx with hx | hx
          · exact HA.out x (List.mem_of_mem_take hx)
          · have := List.mem_singleton.1 hx; subst this; omega
        · exact HA.out x (List.mem_of_mem_drop hx)
      have HXL : Hid (xs.length ≤ 1000) := by have := HL.out; show _ ≤ _; omega
      have HTL : Hid ((xs.take j).length = j) := by show _ = _; simp; omega
      have HDL : Hid ((xs.drop j).length = xs.length - j) := by show _ = _; simp
      have HCE : Hid (∀ q (h : q < xs.length), w1.cell? ⟨g0, q, none⟩ = some (.int .i64 xs[q])) := fun q h => by
        obtain ⟨A', c', e, hC, _⟩ := HO1.out.shape
        injection e with e
        rw [← e] at hC
        obtain ⟨b, off, e2, _, hc⟩ := hC.int q h
        injection e2 with e2
        injection e2 with e2 e3
        subst e2 e3
        rwa [Nat.zero_add] at hc
      have Hhd : Hid (w.heap.size ≤ w1.heap.size) := HG1.out.size
      by_cases hcj : cx = j
      · replace hcj := hcj.symm
        subst hcj
        go_wp2_with fail
        refine wp_region_plan (.det 0 (.det 1 (.det 2 (.det 4 (.det 7 (.det 8 (.det 9 (.two 3 (.one 5 (.one 6 (.one 10 (.det 11 (.done))))) 5 (.one 3 (.one 6 (.one 10 (.det 11 (.done))))))))))))) (fun w' => Below (w1).heap.size (w1) w') (fun a a' w' => ∃ x0 x1 x2 x3 x4 x5 x6 x7 x8 x9 x10 x11, a' = ((((((((((((a.put (some 18) x0).put (some 19) x1).put (some 20) x2).put (some 21) x3).put (some 22) x4).put (some 23) x5).put (some 24) x6).put (some 25) x7).put (some 26) x8).put (some 27) x9).put (some 28) x10).put (some 5) x11) ∧ ∃ g0' cx', x11 = .slice (some ⟨g0', 0, none⟩) (xs.length + 1) cx' ∧ Hid (OwnI w' w.heap.size (.slice (some ⟨g0', 0, none⟩) (xs.length + 1) cx') (xs.take j ++ [(k : Int)] ++ xs.drop j))) (by kernel_rfl) (by kernel_rfl) (fun _ _ d _ _ h => by cases d <;> exact h) ((Below.refl _ _).drew) ?_ ?_
        rotate_left
        · rintro a' wa hba ⟨x0, x1, x2, x3, x4, x5, x6, x7, x8, x9, x10, x11, rfl, hP⟩
          obtain ⟨g0', cx', rfl, HN⟩ := hP
          have HS2 := Lib.hid (HS1.out.below hba)
          have HG2 := Lib.hid (HG1.out.trans (grown_below hba (some g)))
          clear hba
          go_simp
          go_wp2_with fail
          go_roundw
          case rel => exact ⟨k + 1, xs.take j ++ [(k : Int)] ++ xs.drop j, g0', cx', by omega, by go_num, by rw [HN1.out], by rw [HN1.out]; exact HN, by show _ = _; rw [HN1.out, HL.out], HA2, HS2, HG2⟩
          case measure => simp [intOf]; omega
        repeat (first
          | (refine plan_skip rfl rfl (fun K' hK' => ?_); go_simp; refine hK' _ ?_; clear hK' K')
          | (refine plan_do (v := ?_) rfl rfl (fun w1 hb => ?_) (fun K' hK' => ?_); rotate_left
             · go_simp
               rfl
             go_simp; refine hK' _ ?_; clear hK' K'))
        generalize hwd : ({ w1 with drawn := w1.drawn + 1 } : World) = wd
        have HBd : Hid (Below w1.heap.size w1 wd) := by rw [← hwd]; exact (Below.refl _ _).drew
        clear hwd
        have HCd : Hid (∀ q (h : q < xs.length), ∀ W, Below w1.heap.size w1 W → W.cell? ⟨g0, q, none⟩ = some (.int .i64 xs[q])) := fun q h => keepC (HCE.out q h)
        have HOW : Hid (∀ c0 W, Below w1.heap.size w1 W → Calls Tryz.prog 72 #[.slice (some ⟨g0, 0, none⟩) j c0] W fun e w' => ∃ v, e = .returned v ∧ OwnI w' W.heap.size v (xs.take j) ∧ Below W.heap.size W w') := fun c0 W hW => by
          have := l01Own_c (xs.take j) g0 0 c0 W (fun q hq => by
            have hq' : q < xs.length := by have := HTL.out; omega
            rw [Nat.zero_add, List.getElem_take]
            exact HCd.out q hq' W hW) (by have := HTL.out; omega)
          rwa [HTL.out] at this
        refine plan_two ?_ ?_
        · refine step_op rfl rfl (fun K' hK' => ?_)
          go_simp
          refine (HOW.out _ _ HBd.out).mono ?_
          rintro e wa ⟨u, rfl, hu, hb⟩
          have Ba := Lib.hid (HBd.out.trans (hb.mono HBd.out.size))
          have Oa := Lib.hid (hu.weaken HBd.out.size)
          clear hu hb
          refine hK' _ _ (Ba.out) ?_; clear hK' K'
          refine plan_one (step_op rfl rfl (fun K' hK' => ?_))
          go_simp
          obtain ⟨wb, hwb⟩ : ∃ wb, wb = wa.alloc (.cells #[.int .i64 (k : Int)] 2) := ⟨_, rfl⟩
          obtain ⟨bN, hbN⟩ : ∃ bN, bN = wa.heap.size := ⟨_, rfl⟩
          have HOb : Hid (OwnI wb w1.heap.size u (xs.take j)) := by rw [hwb]; exact Oa.out.alloc _
          have HNb : Hid (wb.cell? ⟨bN, 0, none⟩ = some (.int .i64 (k : Int))) := by rw [hwb, hbN]; exact cell_alloc_at _ _ _ _ _ rfl
          have HBb : Hid (Below w1.heap.size w1 wb) := by rw [hwb]; exact below_al Ba.out
          rw [← hwb, ← hbN]
          clear hwb hbN
          refine hK' _ _ (HBb.out) ?_; clear hK' K'
          refine plan_one (step_op rfl rfl (fun K' hK' => ?_))
          refine app_int2 (.tmp 21) (.tmp 23) rfl w1.heap.size _ (xs.take j) (k : Int) rfl HOb.out bN 0 rfl HNb.out (by have := HTL.out; omega) (by have := HBb.out.size; omega) (fun v' w' a1 a2 a3 => ?_)
          have B1 := Lib.hid (HBb.out.grown a2 HBb.out.size (fun q hq => (World.ownsRow.lt HOb.out q hq).1))
          have O1 := Lib.hid a1
          clear a1 a2 a3
          refine hK' _ _ (B1.out) ?_; clear hK' K'
          refine plan_one (step_op rfl rfl (fun K' hK' => ?_))
          refine app_intsN (.tmp 24) (.tmp 27) rfl w1.heap.size _ (xs.take j ++ [(k : Int)]) (xs.drop j) rfl O1.out g0 (0) (0) (by rw [HDL.out]; go_simp) (fun q hq => ?_) (by rw [HDL.out, List.length_append, HTL.out]; have := HXL.out; simp; omega) B1.out.size (fun v'' w'' b1 b2 b3 => ?_)
          · have := HDL.out
            have := hcx
            have hq' : j + q < xs.length := by omega
            have hz : 0 + q = j + q := by omega
            rw [List.getElem_drop]
            first
            | exact HCd.out (j + q) hq' _ B1.out
            | (rw [hz]; exact HCd.out (j + q) hq' _ B1.out)
          have B2 := Lib.hid (B1.out.grown b2 B1.out.size (fun q hq => (World.ownsRow.lt O1.out q hq).1))
          obtain ⟨A3, c3, e3, -⟩ := b1.shape
          obtain ⟨g3, rfl⟩ : ∃ g3, A3 = some ⟨g3, 0, none⟩ := by rw [e3] at b1; exact b1.addr (by rw [HN1.out]; omega)
          have O2 : Hid (OwnI w'' w.heap.size (.slice (some ⟨g3, 0, none⟩) (xs.length + 1) c3) (xs.take j ++ [(k : Int)] ++ xs.drop j)) := by rw [← HN1.out, ← e3]; exact b1.weaken Hhd.out
          rw [HN1.out] at e3
          subst e3
          clear b1 b2 b3
          refine hK' _ _ (B2.out) ?_; clear hK' K'
          repeat (first
            | (refine plan_skip rfl rfl (fun K' hK' => ?_); go_simp; refine hK' _ ?_; clear hK' K')
            | (refine plan_do (v := ?_) rfl rfl (fun w1 hb => ?_) (fun K' hK' => ?_); rotate_left
               · go_simp
                 rfl
               go_simp; refine hK' _ ?_; clear hK' K'))
          refine plan_done ⟨?_, ?_, ?_, ?_, ?_, ?_, ?_, ?_, ?_, ?_, ?_, ?_, ?_, ?_⟩
          rotate_left 12
          · go_simp; (first | rfl | (and_intros <;> rfl))
          · exact ⟨g3, c3, rfl, O2⟩
        · refine step_op rfl rfl (fun K' hK' => ?_)
          go_simp
          obtain ⟨wa, hwa⟩ : ∃ wa, wa = wd.alloc (.cells #[.int .i64 (k : Int)] 2) := ⟨_, rfl⟩
          obtain ⟨bN, hbN⟩ : ∃ bN, bN = wd.heap.size := ⟨_, rfl⟩
          have HNa : Hid (wa.cell? ⟨bN, 0, none⟩ = some (.int .i64 (k : Int))) := by rw [hwa, hbN]; exact cell_alloc_at _ _ _ _ _ rfl
          have Ba : Hid (Below w1.heap.size w1 wa) := by rw [hwa]; exact below_al HBd.out
          rw [← hwa, ← hbN]
          clear hwa hbN
          refine hK' _ _ (Ba.out) ?_; clear hK' K'
          refine plan_one (step_op rfl rfl (fun K' hK' => ?_))
          go_simp
          refine (HOW.out _ _ Ba.out).mono ?_
          rintro e wb ⟨u, rfl, hu, hb⟩
          have HBb := Lib.hid (Ba.out.trans (hb.mono Ba.out.size))
          have HOb := Lib.hid (hu.weaken Ba.out.size)
          have HNb := Lib.hid (keepC HNa.out _ hb)
          clear hu hb
          refine hK' _ _ (HBb.out) ?_; clear hK' K'
          refine plan_one (step_op rfl rfl (fun K' hK' => ?_))
          refine app_int2 (.tmp 21) (.tmp 23) rfl w1.heap.size _ (xs.take j) (k : Int) rfl HOb.out bN 0 rfl HNb.out (by have := HTL.out; omega) (by have := HBb.out.size; omega) (fun v' w' a1 a2 a3 => ?_)
          have B1 := Lib.hid (HBb.out.grown a2 HBb.out.size (fun q hq => (World.ownsRow.lt HOb.out q hq).1))
          have O1 := Lib.hid a1
          clear a1 a2 a3
          refine hK' _ _ (B1.out) ?_; clear hK' K'
          refine plan_one (step_op rfl rfl (fun K' hK' => ?_))
          refine app_intsN (.tmp 24) (.tmp 27) rfl w1.heap.size _ (xs.take j ++ [(k : Int)]) (xs.drop j) rfl O1.out g0 (0) (0) (by rw [HDL.out]; go_simp) (fun q hq => ?_) (by rw [HDL.out, List.length_append, HTL.out]; have := HXL.out; simp; omega) B1.out.size (fun v'' w'' b1 b2 b3 => ?_)
          · have := HDL.out
            have := hcx
            have hq' : j + q < xs.length := by omega
            have hz : 0 + q = j + q := by omega
            rw [List.getElem_drop]
            first
            | exact HCd.out (j + q) hq' _ B1.out
            | (rw [hz]; exact HCd.out (j + q) hq' _ B1.out)
          have B2 := Lib.hid (B1.out.grown b2 B1.out.size (fun q hq => (World.ownsRow.lt O1.out q hq).1))
          obtain ⟨A3, c3, e3, -⟩ := b1.shape
          obtain ⟨g3, rfl⟩ : ∃ g3, A3 = some ⟨g3, 0, none⟩ := by rw [e3] at b1; exact b1.addr (by rw [HN1.out]; omega)
          have O2 : Hid (OwnI w'' w.heap.size (.slice (some ⟨g3, 0, none⟩) (xs.length + 1) c3) (xs.take j ++ [(k : Int)] ++ xs.drop j)) := by rw [← HN1.out, ← e3]; exact b1.weaken Hhd.out
          rw [HN1.out] at e3
          subst e3
          clear b1 b2 b3
          refine hK' _ _ (B2.out) ?_; clear hK' K'
          repeat (first
            | (refine plan_skip rfl rfl (fun K' hK' => ?_); go_simp; refine hK' _ ?_; clear hK' K')
            | (refine plan_do (v := ?_) rfl rfl (fun w1 hb => ?_) (fun K' hK' => ?_); rotate_left
               · go_simp
                 rfl
               go_simp; refine hK' _ ?_; clear hK' K'))
          refine plan_done ⟨?_, ?_, ?_, ?_, ?_, ?_, ?_, ?_, ?_, ?_, ?_, ?_, ?_, ?_⟩
          rotate_left 12
          · go_simp; (first | rfl | (and_intros <;> rfl))
          · exact ⟨g3, c3, rfl, O2⟩
      · go_wp2_with fail
        refine wp_region_plan (.det 0 (.det 1 (.det 2 (.det 4 (.det 7 (.det 8 (.det 9 (.two 3 (.one 5 (.one 6 (.one 10 (.det 11 (.done))))) 5 (.one 3 (.one 6 (.one 10 (.det 11 (.done))))))))))))) (fun w' => Below (w1).heap.size (w1) w') (fun a a' w' => ∃ x0 x1 x2 x3 x4 x5 x6 x7 x8 x9 x10 x11, a' = ((((((((((((a.put (some 18) x0).put (some 19) x1).put (some 20) x2).put (some 21) x3).put (some 22) x4).put (some 23) x5).put (some 24) x6).put (some 25) x7).put (some 26) x8).put (some 27) x9).put (some 28) x10).put (some 5) x11) ∧ ∃ g0' cx', x11 = .slice (some ⟨g0', 0, none⟩) (xs.length + 1) cx' ∧ Hid (OwnI w' w.heap.size (.slice (some ⟨g0', 0, none⟩) (xs.length + 1) cx') (xs.take j ++ [(k : Int)] ++ xs.drop j))) (by kernel_rfl) (by kernel_rfl) (fun _ _ d _ _ h => by cases d <;> exact h) ((Below.refl _ _).drew) ?_ ?_
        rotate_left
        · rintro a' wa hba ⟨x0, x1, x2, x3, x4, x5, x6, x7, x8, x9, x10, x11, rfl, hP⟩
          obtain ⟨g0', cx', rfl, HN⟩ := hP
          have HS2 := Lib.hid (HS1.out.below hba)
          have HG2 := Lib.hid (HG1.out.trans (grown_below hba (some g)))
          clear hba
          go_simp
          go_wp2_with fail
          go_roundw
          case rel => exact ⟨k + 1, xs.take j ++ [(k : Int)] ++ xs.drop j, g0', cx', by omega, by go_num, by rw [HN1.out], by rw [HN1.out]; exact HN, by show _ = _; rw [HN1.out, HL.out], HA2, HS2, HG2⟩
          case measure => simp [intOf]; omega
        repeat (first
          | (refine plan_skip rfl rfl (fun K' hK' => ?_); go_simp; refine hK' _ ?_; clear hK' K')
          | (refine plan_do (v := ?_) rfl rfl (fun w1 hb => ?_) (fun K' hK' => ?_); rotate_left
             · go_simp
               rfl
             go_simp; refine hK' _ ?_; clear hK' K'))
        generalize hwd : ({ w1 with drawn := w1.drawn + 1 } : World) = wd
        have HBd : Hid (Below w1.heap.size w1 wd) := by rw [← hwd]; exact (Below.refl _ _).drew
        clear hwd
        have HCd : Hid (∀ q (h : q < xs.length), ∀ W, Below w1.heap.size w1 W → W.cell? ⟨g0, q, none⟩ = some (.int .i64 xs[q])) := fun q h => keepC (HCE.out q h)
        have HOW : Hid (∀ c0 W, Below w1.heap.size w1 W → Calls Tryz.prog 72 #[.slice (some ⟨g0, 0, none⟩) j c0] W fun e w' => ∃ v, e = .returned v ∧ OwnI w' W.heap.size v (xs.take j) ∧ Below W.heap.size W w') := fun c0 W hW => by
          have := l01Own_c (xs.take j) g0 0 c0 W (fun q hq => by
            have hq' : q < xs.length := by have := HTL.out; omega
            rw [Nat.zero_add, List.getElem_take]
            exact HCd.out q hq' W hW) (by have := HTL.out; omega)
          rwa [HTL.out] at this
        refine plan_two ?_ ?_
        · refine step_op rfl rfl (fun K' hK' => ?_)
          go_simp
          refine (HOW.out _ _ HBd.out).mono ?_
          rintro e wa ⟨u, rfl, hu, hb⟩
          have Ba := Lib.hid (HBd.out.trans (hb.mono HBd.out.size))
          have Oa := Lib.hid (hu.weaken HBd.out.size)
          clear hu hb
          refine hK' _ _ (Ba.out) ?_; clear hK' K'
          refine plan_one (step_op rfl rfl (fun K' hK' => ?_))
          go_simp
          obtain ⟨wb, hwb⟩ : ∃ wb, wb = wa.alloc (.cells #[.int .i64 (k : Int)] 2) := ⟨_, rfl⟩
          obtain ⟨bN, hbN⟩ : ∃ bN, bN = wa.heap.size := ⟨_, rfl⟩
          have HOb : Hid (OwnI wb w1.heap.size u (xs.take j)) := by rw [hwb]; exact Oa.out.alloc _
          have HNb : Hid (wb.cell? ⟨bN, 0, none⟩ = some (.int .i64 (k : Int))) := by rw [hwb, hbN]; exact cell_alloc_at _ _ _ _ _ rfl
          have HBb : Hid (Below w1.heap.size w1 wb) := by rw [hwb]; exact below_al Ba.out
          rw [← hwb, ← hbN]
          clear hwb hbN
          refine hK' _ _ (HBb.out) ?_; clear hK' K'
          refine plan_one (step_op rfl rfl (fun K' hK' => ?_))
          refine app_int2 (.tmp 21) (.tmp 23) rfl w1.heap.size _ (xs.take j) (k : Int) rfl HOb.out bN 0 rfl HNb.out (by have := HTL.out; omega) (by have := HBb.out.size; omega) (fun v' w' a1 a2 a3 => ?_)
          have B1 := Lib.hid (HBb.out.grown a2 HBb.out.size (fun q hq => (World.ownsRow.lt HOb.out q hq).1))
          have O1 := Lib.hid a1
          clear a1 a2 a3
          refine hK' _ _ (B1.out) ?_; clear hK' K'
          refine plan_one (step_op rfl rfl (fun K' hK' => ?_))
          refine app_intsN (.tmp 24) (.tmp 27) rfl w1.heap.size _ (xs.take j ++ [(k : Int)]) (xs.drop j) rfl O1.out g0 (j) (cx - j) (by rw [HDL.out]; go_simp) (fun q hq => ?_) (by rw [HDL.out, List.length_append, HTL.out]; have := HXL.out; simp; omega) B1.out.size (fun v'' w'' b1 b2 b3 => ?_)
          · have := HDL.out
            have := hcx
            have hq' : j + q < xs.length := by omega
            have hz : j + q = j + q := by omega
            rw [List.getElem_drop]
            first
            | exact HCd.out (j + q) hq' _ B1.out
            | (rw [hz]; exact HCd.out (j + q) hq' _ B1.out)
          have B2 := Lib.hid (B1.out.grown b2 B1.out.size (fun q hq => (World.ownsRow.lt O1.out q hq).1))
          obtain ⟨A3, c3, e3, -⟩ := b1.shape
          obtain ⟨g3, rfl⟩ : ∃ g3, A3 = some ⟨g3, 0, none⟩ := by rw [e3] at b1; exact b1.addr (by rw [HN1.out]; omega)
          have O2 : Hid (OwnI w'' w.heap.size (.slice (some ⟨g3, 0, none⟩) (xs.length + 1) c3) (xs.take j ++ [(k : Int)] ++ xs.drop j)) := by rw [← HN1.out, ← e3]; exact b1.weaken Hhd.out
          rw [HN1.out] at e3
          subst e3
          clear b1 b2 b3
          refine hK' _ _ (B2.out) ?_; clear hK' K'
          repeat (first
            | (refine plan_skip rfl rfl (fun K' hK' => ?_); go_simp; refine hK' _ ?_; clear hK' K')
            | (refine plan_do (v := ?_) rfl rfl (fun w1 hb => ?_) (fun K' hK' => ?_); rotate_left
               · go_simp
                 rfl
               go_simp; refine hK' _ ?_; clear hK' K'))
          refine plan_done ⟨?_, ?_, ?_, ?_, ?_, ?_, ?_, ?_, ?_, ?_, ?_, ?_, ?_, ?_⟩
          rotate_left 12
          · go_simp; (first | rfl | (and_intros <;> rfl))
          · exact ⟨g3, c3, rfl, O2⟩
        · refine step_op rfl rfl (fun K' hK' => ?_)
          go_simp
          obtain ⟨wa, hwa⟩ : ∃ wa, wa = wd.alloc (.cells #[.int .i64 (k : Int)] 2) := ⟨_, rfl⟩
          obtain ⟨bN, hbN⟩ : ∃ bN, bN = wd.heap.size := ⟨_, rfl⟩
          have HNa : Hid (wa.cell? ⟨bN, 0, none⟩ = some (.int .i64 (k : Int))) := by rw [hwa, hbN]; exact cell_alloc_at _ _ _ _ _ rfl
          have Ba : Hid (Below w1.heap.size w1 wa) := by rw [hwa]; exact below_al HBd.out
          rw [← hwa, ← hbN]
          clear hwa hbN
          refine hK' _ _ (Ba.out) ?_; clear hK' K'
          refine plan_one (step_op rfl rfl (fun K' hK' => ?_))
          go_simp
          refine (HOW.out _ _ Ba.out).mono ?_
          rintro e wb ⟨u, rfl, hu, hb⟩
          have HBb := Lib.hid (Ba.out.trans (hb.mono Ba.out.size))
          have HOb := Lib.hid (hu.weaken Ba.out.size)
          have HNb := Lib.hid (keepC HNa.out _ hb)
          clear hu hb
          refine hK' _ _ (HBb.out) ?_; clear hK' K'
          refine plan_one (step_op rfl rfl (fun K' hK' => ?_))
          refine app_int2 (.tmp 21) (.tmp 23) rfl w1.heap.size _ (xs.take j) (k : Int) rfl HOb.out bN 0 rfl HNb.out (by have := HTL.out; omega) (by have := HBb.out.size; omega) (fun v' w' a1 a2 a3 => ?_)
          have B1 := Lib.hid (HBb.out.grown a2 HBb.out.size (fun q hq => (World.ownsRow.lt HOb.out q hq).1))
          have O1 := Lib.hid a1
          clear a1 a2 a3
          refine hK' _ _ (B1.out) ?_; clear hK' K'
          refine plan_one (step_op rfl rfl (fun K' hK' => ?_))
          refine app_intsN (.tmp 24) (.tmp 27) rfl w1.heap.size _ (xs.take j ++ [(k : Int)]) (xs.drop j) rfl O1.out g0 (j) (cx - j) (by rw [HDL.out]; go_simp) (fun q hq => ?_) (by rw [HDL.out, List.length_append, HTL.out]; have := HXL.out; simp; omega) B1.out.size (fun v'' w'' b1 b2 b3 => ?_)
          · have := HDL.out
            have := hcx
            have hq' : j + q < xs.length := by omega
            have hz : j + q = j + q := by omega
            rw [List.getElem_drop]
            first
            | exact HCd.out (j + q) hq' _ B1.out
            | (rw [hz]; exact HCd.out (j + q) hq' _ B1.out)
          have B2 := Lib.hid (B1.out.grown b2 B1.out.size (fun q hq => (World.ownsRow.lt O1.out q hq).1))
          obtain ⟨A3, c3, e3, -⟩ := b1.shape
          obtain ⟨g3, rfl⟩ : ∃ g3, A3 = some ⟨g3, 0, none⟩ := by rw [e3] at b1; exact b1.addr (by rw [HN1.out]; omega)
          have O2 : Hid (OwnI w'' w.heap.size (.slice (some ⟨g3, 0, none⟩) (xs.length + 1) c3) (xs.take j ++ [(k : Int)] ++ xs.drop j)) := by rw [← HN1.out, ← e3]; exact b1.weaken Hhd.out
          rw [HN1.out] at e3
          subst e3
          clear b1 b2 b3
          refine hK' _ _ (B2.out) ?_; clear hK' K'
          repeat (first
            | (refine plan_skip rfl rfl (fun K' hK' => ?_); go_simp; refine hK' _ ?_; clear hK' K')
            | (refine plan_do (v := ?_) rfl rfl (fun w1 hb => ?_) (fun K' hK' => ?_); rotate_left
               · go_simp
                 rfl
               go_simp; refine hK' _ ?_; clear hK' K'))
          refine plan_done ⟨?_, ?_, ?_, ?_, ?_, ?_, ?_, ?_, ?_, ?_, ?_, ?_, ?_, ?_⟩
          rotate_left 12
          · go_simp; (first | rfl | (and_intros <;> rfl))
          · exact ⟨g3, c3, rfl, O2⟩
    · have hkn2 : k = n.toNat := by omega
      have HF := Lib.hid (And.intro HO.out (And.intro (HL.out.trans hkn2) (And.intro HA.out (And.intro HSr.out HG.out))))
      clear hkn2 HO HL HA HSr HG
      go_wp2_with fail
      go_ret
      exact ⟨_, xs, rfl, HF.out⟩

end Go.Proofs.YtnoehaphbpkpjaaGreat
