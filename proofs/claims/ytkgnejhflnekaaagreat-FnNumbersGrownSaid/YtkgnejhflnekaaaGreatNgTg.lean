/- Contracts and lemmas for the statements of this seat, written for this claim; each theorem states its own conditions. -/
import Derived.Test.YtkgnejhflnekaaaGreatNgCq
import Derived.Test.YtkgnejhflnekaaaGreatNgGr
set_option linter.unusedVariables false
set_option linter.unusedSimpArgs false
namespace Go.Proofs.YtkgnejhflnekaaaGreat
open Go.RowKit
theorem infoBool : (Tryz.prog.info? 4).map (fun i => (i.zero, i.size, i.bytes)) = some (some (.bool false), 1, 1) := by kernel_rfl
def bools (xs : List Bool) : List Value := xs.map fun x => .bool x
theorem bools_length (xs : List Bool) : (bools xs).length = xs.length := by simp [bools]
theorem bools_set (xs : List Bool) (k : Nat) (x : Bool) : (bools xs).set k (.bool x) = bools (xs.set k x) := by simp [bools, List.map_set]
theorem Blk.bool {w : World} {b : Nat} {xs : List Bool} {T : TypeId} (h : Blk w b (bools xs) T) (k : Nat) (hk : k < xs.length) : w.cell? ⟨b, k, none⟩ = some (.bool xs[k]) := by
  rw [h.cell k (by rw [bools_length]; exact hk)]; simp [bools]
theorem Blk.setBool {w : World} {b : Nat} {xs : List Bool} {T : TypeId} (h : Blk w b (bools xs) T) (k : Nat) (x : Bool) : Blk (w.setCell ⟨b, k, none⟩ (.bool x)) b (bools (xs.set k x)) T := by
  rw [← bools_set]; exact h.set k _
/-- which tiles were met, and the list of those that still are to be looked at -/
structure Met where
  met : List Bool
  list : List Int
def metOne (s : Met) (j : Int) : Met := if s.met.getD j.toNat false = true then s else ⟨s.met.set j.toNat true, s.list ++ [j]⟩
def metRow (row : List Int) (s : Met) (m : Nat) : Met := (row.take m).foldl metOne s
def metStep (L : List (List Int)) (s : Met) (k : Nat) : Met := metRow (L.getD (s.list.getD k 0).toNat []) s 4
def metTo (L : List (List Int)) (i : Int) : Nat → Met
  | 0 => ⟨(List.replicate L.length false).set i.toNat true, [i]⟩
  | k + 1 => metStep L (metTo L i k) k
theorem metRow_succ {row : List Int} {s : Met} {m : Nat} (h : m < row.length) : metRow row s (m + 1) = metOne (metRow row s m) row[m] := by
  unfold metRow; rw [List.take_succ_eq_append_getElem h, List.foldl_append]; rfl
theorem metRow_zero (row : List Int) (s : Met) : metRow row s 0 = s := by simp [metRow]
/-- what holds of all that is met: the list has each tile that was met, once -/
theorem getB_self {xs : List Bool} {m : Nat} (h : m < xs.length) : (xs.set m true).getD m false = true := by simp [h]
theorem getB_ne {xs : List Bool} {m k : Nat} (h : m ≠ k) : (xs.set m true).getD k false = xs.getD k false := by simp [List.getElem?_set_ne h]
def MetOk (N : Nat) (s : Met) : Prop := s.met.length = N ∧ (∀ x ∈ s.list, 0 ≤ x ∧ x < (N : Int) ∧ s.met.getD x.toNat false = true) ∧ s.list.Nodup
theorem metOne_ok {N : Nat} {s : Met} (h : MetOk N s) {j : Int} (j0 : 0 ≤ j) (j1 : j < N) : MetOk N (metOne s j) := by
  obtain ⟨h1, h2, h3⟩ := h
  obtain ⟨m, rfl⟩ := Int.eq_ofNat_of_zero_le j0
  have hm : m < N := by omega
  unfold metOne
  split
  · exact ⟨h1, h2, h3⟩
  · rename_i hf
    refine ⟨by simpa using h1, fun x hx => ?_, ?_⟩
    · rcases List.mem_append.1 hx with hx | hx
      · obtain ⟨a, b, c⟩ := h2 x hx
        refine ⟨a, b, ?_⟩
        rw [Int.toNat_natCast]
        by_cases e : m = x.toNat
        · rw [← e]; exact getB_self (by omega)
        · rw [getB_ne e]; exact c
      · simp at hx; subst hx
        exact ⟨by omega, by omega, getB_self (by rw [Int.toNat_natCast]; omega)⟩
    · rw [List.nodup_append]
      refine ⟨h3, by simp, fun x hx y hy => ?_⟩
      simp at hy; subst hy
      intro e; subst e
      exact hf (h2 _ hx).2.2
theorem metRow_ok {N : Nat} {row : List Int} {s : Met} (h : MetOk N s) (hr : ∀ j (hj : j < row.length), 0 ≤ row[j] ∧ row[j] < N) : ∀ m, m ≤ row.length → MetOk N (metRow row s m)
  | 0, _ => by rw [metRow_zero]; exact h
  | m + 1, hm => by
    rw [metRow_succ (by omega)]
    exact metOne_ok (metRow_ok h hr m (by omega)) (hr m (by omega)).1 (hr m (by omega)).2
theorem nodup_pigeon {N : Nat} {l : List Int} (h : l.Nodup) (hr : ∀ x ∈ l, 0 ≤ x ∧ x < (N : Int)) : l.length ≤ N := by
  refine pigeon N (fun k => l.getD k 0) l.length (fun a ha => ?_) (fun a b hab hb => ?_)
  · rw [show l.getD a 0 = l[a] by simp [ha]]; exact hr _ (List.getElem_mem ha)
  · have ha : a < l.length := by omega
    rw [show l.getD a 0 = l[a] by simp [ha], show l.getD b 0 = l[b] by simp [hb]]
    exact fun e => (List.pairwise_iff_getElem.1 h) a b ha hb hab e
theorem MetOk.len {N : Nat} {s : Met} (h : MetOk N s) : s.list.length ≤ N := nodup_pigeon h.2.2 (fun x hx => ⟨(h.2.1 x hx).1, (h.2.1 x hx).2.1⟩)
theorem metOne_len (s : Met) (j : Int) : s.list.length ≤ (metOne s j).list.length := by unfold metOne; split <;> simp
theorem metRow_len (row : List Int) (s : Met) (m : Nat) : s.list.length ≤ (metRow row s m).list.length := by
  unfold metRow
  generalize row.take m = l
  induction l generalizing s with
  | nil => exact Nat.le_refl _
  | cons x l ih => rw [List.foldl_cons]; exact Nat.le_trans (metOne_len s x) (ih _)
theorem metOne_pre (s : Met) (j : Int) : ∃ t, (metOne s j).list = s.list ++ t := by unfold metOne; split; exact ⟨[], by simp⟩; exact ⟨[j], rfl⟩
theorem metRow_pre (row : List Int) (s : Met) (m : Nat) : ∃ t, (metRow row s m).list = s.list ++ t := by
  unfold metRow
  generalize row.take m = l
  induction l generalizing s with
  | nil => exact ⟨[], by simp⟩
  | cons x l ih =>
    rw [List.foldl_cons]
    obtain ⟨t, ht⟩ := ih (metOne s x)
    obtain ⟨u, hu⟩ := metOne_pre s x
    exact ⟨u ++ t, by rw [ht, hu, List.append_assoc]⟩
def PreEnd (L : List (List Int)) (i : Int) (k : Nat) : Prop := ∀ j, j < k → j < (metTo L i j).list.length
def IsEnd (L : List (List Int)) (i : Int) (k : Nat) : Prop := PreEnd L i k ∧ (metTo L i k).list.length ≤ k
theorem IsEnd.uniq {L : List (List Int)} {i : Int} {k k' : Nat} (h : IsEnd L i k) (h' : IsEnd L i k') : k = k' := by
  rcases Nat.lt_trichotomy k k' with hh | hh | hh
  · have := h'.1 k hh; have := h.2; omega
  · exact hh
  · have := h.1 k' hh; have := h'.2; omega
noncomputable def endOf (L : List (List Int)) (i : Int) : Nat := open Classical in if h : ∃ k, IsEnd L i k then h.choose else 0
theorem endOf_eq {L : List (List Int)} {i : Int} {k : Nat} (h : IsEnd L i k) : endOf L i = k := by
  have he : ∃ k, IsEnd L i k := ⟨k, h⟩
  unfold endOf
  rw [dif_pos he]
  exact he.choose_spec.uniq h
noncomputable def metV (L : List (List Int)) (i : Int) : List Bool := (metTo L i (endOf L i)).met
theorem metTo_ok {N : Nat} {L : List (List Int)} (hB : Blocks N L) {i : Int} (h0 : 0 ≤ i) (h1 : i < N) : ∀ k, PreEnd L i k → MetOk N (metTo L i k)
  | 0, _ => by
    obtain ⟨m, rfl⟩ := Int.eq_ofNat_of_zero_le h0
    refine ⟨by simp [metTo, hB.1], fun x hx => ?_, by simp [metTo]⟩
    simp [metTo] at hx; subst hx
    exact ⟨by omega, h1, getB_self (by simp [hB.1]; omega)⟩
  | k + 1, hp => by
    have ih := metTo_ok hB h0 h1 k (fun j hj => hp j (by omega))
    have hk := hp k (by omega)
    obtain ⟨a, b, _⟩ := ih.2.1 _ (List.getElem_mem hk)
    obtain ⟨m, hm⟩ := Int.eq_ofNat_of_zero_le a
    have hmL : m < L.length := by rw [hB.1]; omega
    have h4 := (hB.2 m hmL)
    show MetOk N (metStep L (metTo L i k) k)
    unfold metStep
    rw [show (metTo L i k).list.getD k 0 = (metTo L i k).list[k] by simp [hk], hm, Int.toNat_natCast, show L.getD m [] = L[m] by simp [hmL]]
    exact metRow_ok ih h4.2 4 (by rw [h4.1]; omega)
theorem metTo_step {N : Nat} {L : List (List Int)} (hB : Blocks N L) {i : Int} (h0 : 0 ≤ i) (h1 : i < N) {k : Nat} (hp : PreEnd L i k) (hk : k < (metTo L i k).list.length) :
    ∃ m, ∃ h : m < L.length, (metTo L i k).list[k] = (m : Int) ∧ metTo L i (k + 1) = metRow L[m] (metTo L i k) 4 := by
  obtain ⟨a, b, _⟩ := (metTo_ok hB h0 h1 k hp).2.1 _ (List.getElem_mem hk)
  obtain ⟨m, hm⟩ := Int.eq_ofNat_of_zero_le a
  have hmL : m < L.length := by rw [hB.1]; omega
  refine ⟨m, hmL, hm, ?_⟩
  show metStep L (metTo L i k) k = _
  unfold metStep
  rw [show (metTo L i k).list.getD k 0 = (metTo L i k).list[k] by simp [hk], hm, Int.toNat_natCast, show L.getD m [] = L[m] by simp [hmL]]
theorem Blk.grown {w w' : World} {b : Nat} {cs : List Value} {T : TypeId} {row : Option Nat} (h : Blk w b cs T) (hg : w.grownBy w' row) (hne : some b ≠ row) : Blk w' b cs T := by
  obtain ⟨_, _, _, _, g5⟩ := hg
  exact (g5 b h.lt hne).trans h
theorem made_bools (n j : Nat) : ((madeCells #[Value.bool false] n).setIfInBounds j (.bool true)).toList = bools ((List.replicate n false).set j true) := by
  rw [Array.toList_setIfInBounds, toList_madeCells_one, ← bools_set]; simp [bools]
theorem made_bools0 (n : Nat) : (madeCells #[Value.bool false] n).toList = bools (List.replicate n false) := by
  rw [toList_madeCells_one]; simp [bools]
set_option maxRecDepth 100000 in
set_option maxHeartbeats 1000000 in
theorem l09Tiles_c (L : List (List Int)) (B : Option Addr) (cr : Nat) (im N : Nat) (w : World) (hR : RowsC w B L) (hB : Blocks N L) (hi : im < N) (hN : N ≤ 16) :
    Calls Tryz.prog 103 #[.slice B L.length cr, .int .i64 im] w fun e w' => ∃ b, e = .returned (.slice (some ⟨b, 0, none⟩) L.length L.length) ∧ w.heap.size ≤ b ∧ Blk w' b (bools (metV L im)) 4 ∧ (metV L im).length = L.length ∧ Below w.heap.size w w' := by
  have hLN := hB.1
  have hiL : im < L.length := by omega
  have hL16 : L.length ≤ 16 := by omega
  have HLN := Lib.hid hLN
  have HOK := Lib.hid (metTo_ok hB (i := (im : Int)) (by omega) (by omega))
  have HST := Lib.hid (fun k => metTo_step hB (i := (im : Int)) (k := k) (by omega) (by omega))
  have HB := Lib.hid hB.2
  have HR := Lib.hid hR
  have hm := fun w => make_k (P := Tryz.prog) 96 4 _ 1 1 Tryz.underlying96 infoBool L.length (by omega) (by omega) w
  have hbl : ∀ w : World, Blk (w.alloc (.cells (madeCells #[.bool false] L.length) 4)) w.heap.size (bools (List.replicate L.length false)) 4 := fun w => by
    have h := Blk.newA w (madeCells #[.bool false] L.length) 4
    rw [made_bools0] at h
    exact h
  have HBl := Lib.hid hbl
  have x0 := (hbl w).bool im (by simpa using hiL)
  have z0 := (hbl w).frozen im
  have x1 := ((hbl w).alloc (.cells #[.int .i64 im] 2)).bool im (by simpa using hiL)
  have z1 := ((hbl w).alloc (.cells #[.int .i64 im] 2)).frozen im
  clear hR hB hLN hbl
  go_enter Tryz.func103, Tryz.ntmps103
  go_wp2_with fail
  clear hm x0 z0 x1 z1
  go_loopw [6, 7] (fun v x wr => ∃ k : Nat, x = .int .i64 k ∧ Hid (PreEnd L im k) ∧ k ≤ N ∧ OwnI wr (w.heap.size + 1) v (metTo L im k).list ∧ Blk wr w.heap.size (bools (metTo L im k).met) 4 ∧ Below w.heap.size w wr) (fun _ x _ => N + 1 - (intOf x).toNat)
  case atStart =>
    refine ⟨0, rfl, fun j hj => by omega, by omega, ?_, ?_, by (repeat (first | (with_reducible exact Below.refl _ _) | (with_reducible assumption) | (with_reducible refine below_al ?_) | (with_reducible refine below_dr ?_) | (with_reducible refine below_drN ?_) | (with_reducible refine below_set ?_ (by first | exact Nat.le_refl _ | (dsimp only; omega) | omega)) | (with_reducible refine below_tr (by with_reducible assumption) ?_)))⟩
    · first
      | exact OwnI.newly (by simp) rfl rfl (by simp) (by simp [metTo])
      | exact (OwnI.newly (w := w.alloc (.cells (madeCells #[.bool false] L.length) 4)) (by simp) rfl rfl (by simp) (by simp [metTo])).setOther _ (by simp) _
    · first
      | (have h := (Blk.newA w ((madeCells #[Value.bool false] L.length).setIfInBounds im (.bool true)) 4).alloc (.cells #[.int .i64 im] 2)
         rw [made_bools] at h
         exact h)
      | exact ((HBl.out w).alloc _).setBool im true
  case round =>
    obtain ⟨k, rfl, HP, hkN, hO, hBk, hb⟩ := hrel
    obtain ⟨A3, cx3, rfl, -, -⟩ := hO.shape
    have HO := Lib.hid hO
    have HBk := Lib.hid hBk
    have Hb := Lib.hid hb
    by_cases hk : k < (metTo L im k).list.length
    · obtain ⟨mm, hmm, e1, e2⟩ := HST.out k HP.out hk
      have ok := HOK.out k HP.out
      have hlen := ok.len
      have HOk := Lib.hid ok
      have HE2 := Lib.hid e2
      have HP2 : Hid (PreEnd L im (k + 1)) := fun j hj => by
        by_cases e : j = k
        · subst e; exact hk
        · exact HP.out j (by omega)
      obtain ⟨g3, eg, -, -, l0, -⟩ := hO.at_ k hk
      rw [e1] at l0
      obtain ⟨b, off, A1, c1, eB, hlt, c0, r1⟩ := (HR.out.below hb) mm hmm
      obtain ⟨h4, hrr⟩ := HB.out mm hmm
      have HH4 := Lib.hid h4
      have HRR := Lib.hid hrr
      have hcw : w.cell? ⟨b, off + mm, none⟩ = some (.slice A1 L[mm].length c1) ∧ Cells w A1 (ints L[mm]) := by
        obtain ⟨b', off', A', c', e', hlt', c0', r1'⟩ := HR.out mm hmm
        rw [eB] at e'
        injection e' with e'
        injection e' with s1 s2
        subst s1 s2
        have := keepC c0' _ hb
        rw [c0] at this
        injection this with this
        injection this with s3 _ s4
        subst s3 s4
        exact ⟨c0', r1'⟩
      have HC0 := Lib.hid hcw.1
      have R1 := Lib.hid hcw.2
      have HE1 := Lib.hid e1
      generalize metTo L im k = s at *
      rw [h4] at c0 HC0
      subst eB eg
      clear e1 e2 ok r1 hrr h4 hO hBk hb hcw
      go_wp2_with fail
      go_loopw [6, 8] (fun v x wz => ∃ m : Nat, m ≤ 4 ∧ x = .int .i64 m ∧ OwnI wz (w.heap.size + 1) v (metRow L[mm] s m).list ∧ Blk wz w.heap.size (bools (metRow L[mm] s m).met) 4 ∧ Below w.heap.size w wz) (fun _ x _ => 4 - (intOf x).toNat)
      case atStart => exact ⟨0, by omega, rfl, by rw [metRow_zero]; exact HO.out, by rw [metRow_zero]; exact HBk.out, Hb.out⟩
      case round =>
        obtain ⟨m, hm, rfl, hO5, hB5, hb5⟩ := hrel
        obtain ⟨A5, cx5, rfl, -, -⟩ := hO5.shape
        have HO5 := Lib.hid hO5
        have HB5 := Lib.hid hB5
        have Hb5 := Lib.hid hb5
        clear l0 c0
        by_cases hm4 : m < 4
        · have hmr : m < L[mm].length := by have := HH4.out; omega
          have ok5 := metRow_ok HOk.out HRR.out m (by omega)
          have hkl : k < (metRow L[mm] s m).list.length := Nat.lt_of_lt_of_le hk (metRow_len _ _ _)
          have hlk : (metRow L[mm] s m).list[k] = (mm : Int) := by
            obtain ⟨t, ht⟩ := metRow_pre L[mm] s m
            have : (metRow L[mm] s m).list[k]? = some (mm : Int) := by
              rw [ht, List.getElem?_append_left hk, List.getElem?_eq_getElem hk, HE1.out]
            rw [List.getElem?_eq_getElem hkl] at this
            exact Option.some.inj this
          obtain ⟨g5, eg5, gB, -, l0, -⟩ := hO5.at_ k hkl
          rw [hlk] at l0
          have hls := ok5.len
          obtain ⟨j0, j1⟩ := HRR.out m hmr
          obtain ⟨jn, hjn⟩ := Int.eq_ofNat_of_zero_le j0
          have hjm : jn < (metRow L[mm] s m).met.length := by rw [ok5.1]; omega
          have hjL : jn < L.length := by rw [HLN.out]; omega
          have x0 := hB5.bool jn hjm
          have z0 := hB5.frozen jn
          have c0 := keepC HC0.out _ hb5
          obtain ⟨b6, off6, e6, hlt6, d0⟩ := (R1.out.below hb5).int m hmr
          rw [hjn] at d0
          have HS := Lib.hid (metRow_succ (s := s) hmr)
          rw [hjn] at HS
          have hget : (metRow L[mm] s m).met.getD jn false = (metRow L[mm] s m).met[jn] := by simp [hjm]
          have hlt7 := hB5.lt
          subst eg5 e6
          generalize hs5 : metRow L[mm] s m = s5 at *
          have HS5 := Lib.hid hs5
          clear hs5 hO5 hB5 hb5 ok5 hlk j0 j1 hjn
          cases hmt : s5.met[jn]
          · have HS2 : Hid (metRow L[mm] s (m + 1) = ⟨s5.met.set jn true, s5.list ++ [(jn : Int)]⟩) := by
              rw [Hid, HS.out]; unfold metOne; rw [Int.toNat_natCast, hget, hmt]; simp
            rw [hmt] at x0
            clear hget hmt
            go_wp2_with (at_builtin; refine Hold.of ?_)
            refine Hold.to ?_
            refine wpl_app_int rfl (.tmp 46) (.tmp 48) rfl (w.heap.size + 1) _ _ (jn : Int) rfl ((HO5.out.setOther _ (by simp) _).alloc _) wr.heap.size 0 rfl (cell_al _ _ _ _ _ _ (by simp) rfl) (by omega) (by have := Hb5.out.size; simp; omega) (fun v' w' h1 h2 h3 => ?_)
            have hne : some w.heap.size ≠ Value.ownBlock (.slice (some ⟨g5, 0, none⟩) s5.list.length cx5) := fun e => by
              have : w.heap.size = g5 := Option.some.inj e
              omega
            have hBn := ((HB5.out.setBool jn true).alloc _).grown h2 hne
            have h4 : Below w.heap.size w w' := Below.grown (below_al (Hb5.out.setCell (Nat.le_refl _) _)) h2 (by have := Hb5.out.size; simp; omega) (fun q hq => by have : g5 = q := Option.some.inj hq; omega)
            have HO6 := Lib.hid h1
            have HB6 := Lib.hid hBn
            have Hb6 := Lib.hid h4
            clear h1 h2 h3 h4 hne hBn x0 z0 c0 d0 l0
            go_wp2_with fail
            go_roundw
            case rel => exact ⟨m + 1, by omega, by go_num, by rw [HS2.out]; exact HO6.out, by rw [HS2.out]; exact HB6.out, Hb6.out⟩
            case measure => simp [intOf]; omega
          · have HS2 : Hid (metRow L[mm] s (m + 1) = s5) := by
              rw [Hid, HS.out]; unfold metOne; rw [Int.toNat_natCast, hget, hmt]; simp
            rw [hmt] at x0
            clear hget hmt
            go_wp2_with fail
            go_roundw
            case rel => exact ⟨m + 1, by omega, by go_num, by rw [HS2.out]; exact HO5.out, by rw [HS2.out]; exact HB5.out, Hb5.out⟩
            case measure => simp [intOf]; omega
        · obtain rfl : m = 4 := by omega
          rw [← HE2.out] at HO5 HB5
          clear hO5 hB5 hb5
          go_wp2_with fail
          go_roundw
          case rel => exact ⟨k + 1, by go_num, HP2.out, by omega, by rw [← HE2.out] ; exact HO5.out, HB5.out, Hb5.out⟩
          case measure => simp [intOf]; omega
    · have he := endOf_eq (L := L) (i := (im : Int)) ⟨HP.out, by omega⟩
      have HV : Hid (metV L im = (metTo L im k).met) := by unfold Hid metV; rw [he]
      have ok := HOK.out k HP.out
      have hml : Hid ((metTo L im k).met.length = L.length) := by rw [Hid, ok.1, HLN.out]
      clear he hO hBk hb ok
      go_wp2_with fail
      go_ret
      exact ⟨w.heap.size, rfl, Nat.le_refl _, by rw [HV.out]; exact HBk.out, by rw [HV.out]; exact hml.out, Hb.out⟩
set_option maxRecDepth 100000 in
set_option maxHeartbeats 1000000 in
theorem tilesGrown_c (L : List (List Int)) (B : Option Addr) (cr : Nat) (im N : Nat) (w : World) (hR : RowsC w B L) (hB : Blocks N L) (hi : im < N) (hN : N ≤ 16) :
    Calls Tryz.prog 95 #[.slice B L.length cr, .int .i64 im] w fun e w' => ∃ b, e = .returned (.slice (some ⟨b, 0, none⟩) L.length L.length) ∧ w.heap.size ≤ b ∧ Blk w' b (bools (metV L im)) 4 ∧ (metV L im).length = L.length ∧ Below w.heap.size w w' := by
  have hLN := hB.1
  have hiL : im < L.length := by omega
  have hL16 : L.length ≤ 16 := by omega
  have HLN := Lib.hid hLN
  have HOK := Lib.hid (metTo_ok hB (i := (im : Int)) (by omega) (by omega))
  have HST := Lib.hid (fun k => metTo_step hB (i := (im : Int)) (k := k) (by omega) (by omega))
  have HB := Lib.hid hB.2
  have HR := Lib.hid hR
  have hm := fun w => make_k (P := Tryz.prog) 96 4 _ 1 1 Tryz.underlying96 infoBool L.length (by omega) (by omega) w
  have hbl : ∀ w : World, Blk (w.alloc (.cells (madeCells #[.bool false] L.length) 4)) w.heap.size (bools (List.replicate L.length false)) 4 := fun w => by
    have h := Blk.newA w (madeCells #[.bool false] L.length) 4
    rw [made_bools0] at h
    exact h
  have HBl := Lib.hid hbl
  have x0 := (hbl w).bool im (by simpa using hiL)
  have z0 := (hbl w).frozen im
  have x1 := ((hbl w).alloc (.cells #[.int .i64 im] 2)).bool im (by simpa using hiL)
  have z1 := ((hbl w).alloc (.cells #[.int .i64 im] 2)).frozen im
  clear hR hB hLN hbl
  go_enter Tryz.func95, Tryz.ntmps95
  go_wp2_with fail
  clear hm x0 z0 x1 z1
  go_loopw [6, 7] (fun v x wr => ∃ k : Nat, x = .int .i64 k ∧ Hid (PreEnd L im k) ∧ k ≤ N ∧ OwnI wr (w.heap.size + 1) v (metTo L im k).list ∧ Blk wr w.heap.size (bools (metTo L im k).met) 4 ∧ Below w.heap.size w wr) (fun _ x _ => N + 1 - (intOf x).toNat)
  case atStart =>
    refine ⟨0, rfl, fun j hj => by omega, by omega, ?_, ?_, by (repeat (first | (with_reducible exact Below.refl _ _) | (with_reducible assumption) | (with_reducible refine below_al ?_) | (with_reducible refine below_dr ?_) | (with_reducible refine below_drN ?_) | (with_reducible refine below_set ?_ (by first | exact Nat.le_refl _ | (dsimp only; omega) | omega)) | (with_reducible refine below_tr (by with_reducible assumption) ?_)))⟩
    · first
      | exact OwnI.newly (by simp) rfl rfl (by simp) (by simp [metTo])
      | exact (OwnI.newly (w := w.alloc (.cells (madeCells #[.bool false] L.length) 4)) (by simp) rfl rfl (by simp) (by simp [metTo])).setOther _ (by simp) _
    · first
      | (have h := (Blk.newA w ((madeCells #[Value.bool false] L.length).setIfInBounds im (.bool true)) 4).alloc (.cells #[.int .i64 im] 2)
         rw [made_bools] at h
         exact h)
      | exact ((HBl.out w).alloc _).setBool im true
  case round =>
    obtain ⟨k, rfl, HP, hkN, hO, hBk, hb⟩ := hrel
    obtain ⟨A3, cx3, rfl, -, -⟩ := hO.shape
    have HO := Lib.hid hO
    have HBk := Lib.hid hBk
    have Hb := Lib.hid hb
    by_cases hk : k < (metTo L im k).list.length
    · obtain ⟨mm, hmm, e1, e2⟩ := HST.out k HP.out hk
      have ok := HOK.out k HP.out
      have hlen := ok.len
      have HOk := Lib.hid ok
      have HE2 := Lib.hid e2
      have HP2 : Hid (PreEnd L im (k + 1)) := fun j hj => by
        by_cases e : j = k
        · subst e; exact hk
        · exact HP.out j (by omega)
      obtain ⟨g3, eg, -, -, l0, -⟩ := hO.at_ k hk
      rw [e1] at l0
      obtain ⟨b, off, A1, c1, eB, hlt, c0, r1⟩ := (HR.out.below hb) mm hmm
      obtain ⟨h4, hrr⟩ := HB.out mm hmm
      have HH4 := Lib.hid h4
      have HRR := Lib.hid hrr
      have hcw : w.cell? ⟨b, off + mm, none⟩ = some (.slice A1 L[mm].length c1) ∧ Cells w A1 (ints L[mm]) := by
        obtain ⟨b', off', A', c', e', hlt', c0', r1'⟩ := HR.out mm hmm
        rw [eB] at e'
        injection e' with e'
        injection e' with s1 s2
        subst s1 s2
        have := keepC c0' _ hb
        rw [c0] at this
        injection this with this
        injection this with s3 _ s4
        subst s3 s4
        exact ⟨c0', r1'⟩
      have HC0 := Lib.hid hcw.1
      have R1 := Lib.hid hcw.2
      have HE1 := Lib.hid e1
      generalize metTo L im k = s at *
      rw [h4] at c0 HC0
      subst eB eg
      clear e1 e2 ok r1 hrr h4 hO hBk hb hcw
      go_wp2_with fail
      go_loopw [6, 32] (fun v x wz => ∃ m : Nat, m ≤ 4 ∧ x = .int .i64 m ∧ OwnI wz (w.heap.size + 1) v (metRow L[mm] s m).list ∧ Blk wz w.heap.size (bools (metRow L[mm] s m).met) 4 ∧ Below w.heap.size w wz) (fun _ x _ => 4 - (intOf x).toNat)
      case atStart => exact ⟨0, by omega, rfl, by rw [metRow_zero]; exact HO.out, by rw [metRow_zero]; exact HBk.out, Hb.out⟩
      case round =>
        obtain ⟨m, hm, rfl, hO5, hB5, hb5⟩ := hrel
        obtain ⟨A5, cx5, rfl, -, -⟩ := hO5.shape
        have HO5 := Lib.hid hO5
        have HB5 := Lib.hid hB5
        have Hb5 := Lib.hid hb5
        clear l0 c0
        by_cases hm4 : m < 4
        · have hmr : m < L[mm].length := by have := HH4.out; omega
          have ok5 := metRow_ok HOk.out HRR.out m (by omega)
          have hkl : k < (metRow L[mm] s m).list.length := Nat.lt_of_lt_of_le hk (metRow_len _ _ _)
          have hlk : (metRow L[mm] s m).list[k] = (mm : Int) := by
            obtain ⟨t, ht⟩ := metRow_pre L[mm] s m
            have : (metRow L[mm] s m).list[k]? = some (mm : Int) := by
              rw [ht, List.getElem?_append_left hk, List.getElem?_eq_getElem hk, HE1.out]
            rw [List.getElem?_eq_getElem hkl] at this
            exact Option.some.inj this
          obtain ⟨g5, eg5, gB, -, l0, -⟩ := hO5.at_ k hkl
          rw [hlk] at l0
          have hls := ok5.len
          obtain ⟨j0, j1⟩ := HRR.out m hmr
          obtain ⟨jn, hjn⟩ := Int.eq_ofNat_of_zero_le j0
          have hjm : jn < (metRow L[mm] s m).met.length := by rw [ok5.1]; omega
          have hjL : jn < L.length := by rw [HLN.out]; omega
          have x0 := hB5.bool jn hjm
          have z0 := hB5.frozen jn
          have c0 := keepC HC0.out _ hb5
          obtain ⟨b6, off6, e6, hlt6, d0⟩ := (R1.out.below hb5).int m hmr
          rw [hjn] at d0
          have HS := Lib.hid (metRow_succ (s := s) hmr)
          rw [hjn] at HS
          have hget : (metRow L[mm] s m).met.getD jn false = (metRow L[mm] s m).met[jn] := by simp [hjm]
          have hlt7 := hB5.lt
          subst eg5 e6
          generalize hs5 : metRow L[mm] s m = s5 at *
          have HS5 := Lib.hid hs5
          clear hs5 hO5 hB5 hb5 ok5 hlk j0 j1 hjn
          cases hmt : s5.met[jn]
          · have HS2 : Hid (metRow L[mm] s (m + 1) = ⟨s5.met.set jn true, s5.list ++ [(jn : Int)]⟩) := by
              rw [Hid, HS.out]; unfold metOne; rw [Int.toNat_natCast, hget, hmt]; simp
            rw [hmt] at x0
            clear hget hmt
            go_wp2_with (at_builtin; refine Hold.of ?_)
            refine Hold.to ?_
            refine wpl_app_int rfl (.tmp 44) (.tmp 46) rfl (w.heap.size + 1) _ _ (jn : Int) rfl ((HO5.out.setOther _ (by simp) _).alloc _) wr.heap.size 0 rfl (cell_al _ _ _ _ _ _ (by simp) rfl) (by omega) (by have := Hb5.out.size; simp; omega) (fun v' w' h1 h2 h3 => ?_)
            have hne : some w.heap.size ≠ Value.ownBlock (.slice (some ⟨g5, 0, none⟩) s5.list.length cx5) := fun e => by
              have : w.heap.size = g5 := Option.some.inj e
              omega
            have hBn := ((HB5.out.setBool jn true).alloc _).grown h2 hne
            have h4 : Below w.heap.size w w' := Below.grown (below_al (Hb5.out.setCell (Nat.le_refl _) _)) h2 (by have := Hb5.out.size; simp; omega) (fun q hq => by have : g5 = q := Option.some.inj hq; omega)
            have HO6 := Lib.hid h1
            have HB6 := Lib.hid hBn
            have Hb6 := Lib.hid h4
            clear h1 h2 h3 h4 hne hBn x0 z0 c0 d0 l0
            go_wp2_with fail
            go_roundw
            case rel => exact ⟨m + 1, by omega, by go_num, by rw [HS2.out]; exact HO6.out, by rw [HS2.out]; exact HB6.out, Hb6.out⟩
            case measure => simp [intOf]; omega
          · have HS2 : Hid (metRow L[mm] s (m + 1) = s5) := by
              rw [Hid, HS.out]; unfold metOne; rw [Int.toNat_natCast, hget, hmt]; simp
            rw [hmt] at x0
            clear hget hmt
            go_wp2_with fail
            go_roundw
            case rel => exact ⟨m + 1, by omega, by go_num, by rw [HS2.out]; exact HO5.out, by rw [HS2.out]; exact HB5.out, Hb5.out⟩
            case measure => simp [intOf]; omega
        · obtain rfl : m = 4 := by omega
          rw [← HE2.out] at HO5 HB5
          clear hO5 hB5 hb5
          go_wp2_with fail
          go_roundw
          case rel => exact ⟨k + 1, by go_num, HP2.out, by omega, by rw [← HE2.out] ; exact HO5.out, HB5.out, Hb5.out⟩
          case measure => simp [intOf]; omega
    · have he := endOf_eq (L := L) (i := (im : Int)) ⟨HP.out, by omega⟩
      have HV : Hid (metV L im = (metTo L im k).met) := by unfold Hid metV; rw [he]
      have ok := HOK.out k HP.out
      have hml : Hid ((metTo L im k).met.length = L.length) := by rw [Hid, ok.1, HLN.out]
      clear he hO hBk hb ok
      go_wp2_with fail
      go_ret
      exact ⟨w.heap.size, rfl, Nat.le_refl _, by rw [HV.out]; exact HBk.out, by rw [HV.out]; exact hml.out, Hb.out⟩

def tgTo (met : List Bool) (k : Nat) : List Int := ((List.range k).filter fun j => met.getD j false).map fun (j : Nat) => (j : Int)
theorem tgTo_succ (met : List Bool) (k : Nat) : tgTo met (k + 1) = tgTo met k ++ (if met.getD k false = true then [(k : Int)] else []) := by
  unfold tgTo; rw [List.range_succ, List.filter_append, List.map_append]
  cases h : met.getD k false <;> simp [List.filter_cons, h] <;> simp_all
theorem tgTo_len (met : List Bool) (k : Nat) : (tgTo met k).length ≤ k := by
  unfold tgTo; rw [List.length_map]
  exact Nat.le_trans (List.length_filter_le _ _) (by simp)
def tgCode (c : Int) (ts : List T4) (L : List (List Int)) (i : Int) : Int := codeB (isSetB c ts) (stepB ts.length L i 0 0)
noncomputable def tgV (c : Int) (ts : List T4) (L : List (List Int)) (i : Int) : List Int := if tgCode c ts L i = 0 then tgTo (metV L i) L.length else []
theorem tgV_len (c : Int) (ts : List T4) (L : List (List Int)) (i : Int) : (tgV c ts L i).length ≤ 1000000 := by
  unfold tgV
  split
  · rename_i h
    obtain ⟨h1, h2⟩ := codeB_zero h
    obtain ⟨hB, _⟩ := stepB_parts h2
    have := tgTo_len (metV L i) L.length
    have := (isSetB_small h1).2
    have := hB.1
    omega
  · simp
set_option maxRecDepth 100000 in
set_option maxHeartbeats 1000000 in
theorem specTilesGrown_c (c : Int) (ts : List T4) (A : Option Addr) (cx : Nat) (L : List (List Int)) (B : Option Addr) (cr : Nat) (i : Int) (w : World) (hT : TileCells w A ts) (hl : ts.length ≤ 1000000000) (hR : RowsC w B L) (hn : L.length ≤ 1000000000) (hS : Short 1000000000 L) :
    Calls Tryz.prog 37 #[.agg #[.int .i64 c, .slice A ts.length cx], .slice B L.length cr, .int .i64 i] w (RetIC1 w (tgV c ts L i) (tgCode c ts L i)) := by
  have HC := Lib.hid (fun (wq : World) (hq : Below w.heap.size w wq) => l09Tile_c c ts A cx L B cr i 0 0 wq (hT.below hq) hl (hR.below hq) hn hS)
  have HR := Lib.hid hR
  have HV : Hid (tgCode c ts L i = codeB (isSetB c ts) (stepB ts.length L i 0 0)) := rfl
  have HV1 : Hid (tgV c ts L i = if tgCode c ts L i = 0 then tgTo (metV L i) L.length else []) := rfl
  clear hT hR
  by_cases h0 : codeB (isSetB c ts) (stepB ts.length L i 0 0) = 0
  · obtain ⟨hs, hst⟩ := codeB_zero h0
    obtain ⟨hB, ⟨i0, i1⟩, -⟩ := stepB_parts hst
    have h16 := (isSetB_small hs).2
    obtain ⟨im, rfl⟩ := Int.eq_ofNat_of_zero_le i0
    have HT := Lib.hid (fun (wq : World) (hq : Below w.heap.size w wq) => l09Tiles_c L B cr im ts.length wq (HR.out.below hq) hB (by omega) h16)
    have hL16 : L.length ≤ 16 := by rw [hB.1]; omega
    rw [h0] at HV HC
    have hc0 := HV.out
    have HF1 : Hid (tgV c ts L im = tgTo (metV L im) L.length) := by rw [Hid, HV1.out, if_pos hc0]
    rw [hc0]
    clear hs hst hB i0 i1 h0 hc0 HV HV1 hS
    generalize metV L im = met at *
    go_enter Tryz.func37, Tryz.ntmps37
    go_wp2_with fail
    refine (HC.out _ (by (repeat (first | (with_reducible exact Below.refl _ _) | (with_reducible assumption) | (with_reducible refine below_al ?_) | (with_reducible refine below_dr ?_) | (with_reducible refine below_drN ?_) | (with_reducible refine below_set ?_ (by first | exact Nat.le_refl _ | (dsimp only; omega) | omega)) | (with_reducible refine below_tr (by with_reducible assumption) ?_))))).mono ?_
    rintro e w1 ⟨rfl, hb1⟩
    have Hw1 : Hid (Below w.heap.size w w1) := by (show Below _ _ _); (repeat (first | (with_reducible exact Below.refl _ _) | (with_reducible assumption) | (with_reducible refine below_al ?_) | (with_reducible refine below_dr ?_) | (with_reducible refine below_drN ?_) | (with_reducible refine below_set ?_ (by first | exact Nat.le_refl _ | (dsimp only; omega) | omega)) | (with_reducible refine below_tr (by with_reducible assumption) ?_)))
    clear hb1
    go_wp2_with fail
    refine (HT.out _ Hw1.out).mono ?_
    rintro e w2 ⟨b, rfl, hbb, hBm, hml, hb2⟩
    have HBm := Lib.hid hBm
    have Hw2 : Hid (Below w.heap.size w w2) := by (have h1 := Hw1.out; show Below _ _ _; (repeat (first | (with_reducible exact Below.refl _ _) | (with_reducible assumption) | (with_reducible refine below_al ?_) | (with_reducible refine below_dr ?_) | (with_reducible refine below_drN ?_) | (with_reducible refine below_set ?_ (by first | exact Nat.le_refl _ | (dsimp only; omega) | omega)) | (with_reducible refine below_tr (by with_reducible assumption) ?_))))
    have HML := Lib.hid hml
    clear hBm hml
    go_wp2_with fail
    go_loopw [10, 11] (fun v x wr => ∃ k : Nat, k ≤ L.length ∧ x = .int .i64 k ∧ OwnI wr w.heap.size v (tgTo met k) ∧ Blk wr b (bools met) 4 ∧ v.ownBlock ≠ some b ∧ Below w.heap.size w wr) (fun _ x _ => L.length - (intOf x).toNat)
    case atStart => exact ⟨0, by omega, rfl, OwnI.emptyAt rfl Hw2.out.size, HBm.out.alloc _, fun e => by have : w2.heap.size = b := Option.some.inj e; have := HBm.out.lt; omega, below_al Hw2.out⟩
    case round =>
      obtain ⟨k, hk, rfl, hO, hBk, hne, hb⟩ := hrel
      have HO := Lib.hid hO
      have HBk := Lib.hid hBk
      have Hne := Lib.hid hne
      have Hb := Lib.hid hb
      by_cases hkL : k < L.length
      · have hkm : k < met.length := by rw [HML.out]; exact hkL
        have x0 := hBk.bool k hkm
        have HS := Lib.hid (tgTo_succ met k)
        have hg : met.getD k false = met[k] := by simp [hkm]
        have hlen := tgTo_len met k
        have hlt := hBk.lt
        clear hO hBk hne hb
        cases hmk : met[k]
        · have HS2 : Hid (tgTo met (k + 1) = tgTo met k) := by rw [Hid, HS.out, hg, hmk]; simp
          rw [hmk] at x0
          clear hg hmk
          go_wp2_with fail
          go_roundw
          case rel => exact ⟨k + 1, by omega, by go_num, by rw [HS2.out]; exact HO.out, HBk.out, Hne.out, Hb.out⟩
          case measure => simp [intOf]; omega
        · have HS2 : Hid (tgTo met (k + 1) = tgTo met k ++ [(k : Int)]) := by rw [Hid, HS.out, hg, hmk]; simp
          rw [hmk] at x0
          clear hg hmk
          go_wp2_with (at_builtin; refine Hold.of ?_)
          refine Hold.to ?_
          refine wpl_app_int rfl (.tmp 33) (.tmp 35) rfl w.heap.size _ _ (k : Int) rfl (HO.out.alloc _) wr.heap.size 0 rfl (cell_alloc_at _ _ _ _ _ rfl) (by omega) (by have := Hb.out.size; simp; omega) (fun v' w' h1 h2 h3 => ?_)
          rw [← HS2.out] at h1
          have h4 := below_grown (below_al Hb.out) h2 (HO.out.alloc _) (Nat.le_refl _)
          have hBn := (HBk.out.alloc _).grown h2 (fun e => Hne.out e.symm)
          have hne2 : v'.ownBlock ≠ some b := by
            rcases h3 with h3 | h3
            · rw [h3]; exact Hne.out
            · rw [h3]; intro e; have := Option.some.inj e; simp at this; omega
          have HO1 := Lib.hid h1
          have H4 := Lib.hid h4
          have HBn := Lib.hid hBn
          have HN2 := Lib.hid hne2
          clear h1 h2 h3 h4 hBn hne2 x0
          go_wp2_with fail
          go_roundw
          case rel => exact ⟨k + 1, by omega, by go_num, HO1.out, HBn.out, HN2.out, H4.out⟩
          case measure => simp [intOf]; omega
      · obtain rfl : k = L.length := by omega
        clear hO hBk hne hb
        go_wp2
        go_ret2
        exact ⟨_, rfl, by rw [HF1.out]; exact HO.out, Hb.out⟩
  · have HF1 : Hid (tgV c ts L i = []) := by rw [Hid, HV1.out, HV.out, if_neg h0]
    rw [HV.out]
    generalize codeB (isSetB c ts) (stepB ts.length L i 0 0) = d at *
    have hne : (d != 0) = true := by simpa using h0
    clear h0
    go_enter Tryz.func37, Tryz.ntmps37
    go_wp2_with fail
    refine (HC.out _ (by (repeat (first | (with_reducible exact Below.refl _ _) | (with_reducible assumption) | (with_reducible refine below_al ?_) | (with_reducible refine below_dr ?_) | (with_reducible refine below_drN ?_) | (with_reducible refine below_set ?_ (by first | exact Nat.le_refl _ | (dsimp only; omega) | omega)) | (with_reducible refine below_tr (by with_reducible assumption) ?_))))).mono ?_
    rintro e w1 ⟨rfl, hb1⟩
    have Hw1 : Hid (Below w.heap.size w w1) := by (show Below _ _ _); (repeat (first | (with_reducible exact Below.refl _ _) | (with_reducible assumption) | (with_reducible refine below_al ?_) | (with_reducible refine below_dr ?_) | (with_reducible refine below_drN ?_) | (with_reducible refine below_set ?_ (by first | exact Nat.le_refl _ | (dsimp only; omega) | omega)) | (with_reducible refine below_tr (by with_reducible assumption) ?_)))
    clear hb1
    go_wp2
    go_ret2
    exact ⟨_, rfl, by rw [HF1.out]; exact OwnI.nil _ _, Hw1.out⟩
set_option maxRecDepth 100000 in
set_option maxHeartbeats 1000000 in
theorem implTilesGrown_c (c : Int) (ts : List T4) (A : Option Addr) (cx : Nat) (L : List (List Int)) (B : Option Addr) (cr : Nat) (i : Int) (w : World) (hT : TileCells w A ts) (hl : ts.length ≤ 1000000000) (hR : RowsC w B L) (hn : L.length ≤ 1000000000) (hS : Short 1000000000 L) :
    Calls Tryz.prog 24 #[.agg #[.int .i64 c, .slice A ts.length cx], .slice B L.length cr, .int .i64 i] w (RetIC1 w (tgV c ts L i) (tgCode c ts L i)) := by
  have HC := Lib.hid (fun (wq : World) (hq : Below w.heap.size w wq) => stepsCode_c c ts A cx L B cr i 0 0 wq (hT.below hq) hl (hR.below hq) hn hS)
  have HR := Lib.hid hR
  have HV : Hid (tgCode c ts L i = codeB (isSetB c ts) (stepB ts.length L i 0 0)) := rfl
  have HV1 : Hid (tgV c ts L i = if tgCode c ts L i = 0 then tgTo (metV L i) L.length else []) := rfl
  clear hT hR
  by_cases h0 : codeB (isSetB c ts) (stepB ts.length L i 0 0) = 0
  · obtain ⟨hs, hst⟩ := codeB_zero h0
    obtain ⟨hB, ⟨i0, i1⟩, -⟩ := stepB_parts hst
    have h16 := (isSetB_small hs).2
    obtain ⟨im, rfl⟩ := Int.eq_ofNat_of_zero_le i0
    have HT := Lib.hid (fun (wq : World) (hq : Below w.heap.size w wq) => tilesGrown_c L B cr im ts.length wq (HR.out.below hq) hB (by omega) h16)
    have hL16 : L.length ≤ 16 := by rw [hB.1]; omega
    rw [h0] at HV HC
    have hc0 := HV.out
    have HF1 : Hid (tgV c ts L im = tgTo (metV L im) L.length) := by rw [Hid, HV1.out, if_pos hc0]
    rw [hc0]
    clear hs hst hB i0 i1 h0 hc0 HV HV1 hS
    generalize metV L im = met at *
    go_enter Tryz.func24, Tryz.ntmps24
    go_wp2_with fail
    refine (HC.out _ (by (repeat (first | (with_reducible exact Below.refl _ _) | (with_reducible assumption) | (with_reducible refine below_al ?_) | (with_reducible refine below_dr ?_) | (with_reducible refine below_drN ?_) | (with_reducible refine below_set ?_ (by first | exact Nat.le_refl _ | (dsimp only; omega) | omega)) | (with_reducible refine below_tr (by with_reducible assumption) ?_))))).mono ?_
    rintro e w1 ⟨rfl, hb1⟩
    have Hw1 : Hid (Below w.heap.size w w1) := by (show Below _ _ _); (repeat (first | (with_reducible exact Below.refl _ _) | (with_reducible assumption) | (with_reducible refine below_al ?_) | (with_reducible refine below_dr ?_) | (with_reducible refine below_drN ?_) | (with_reducible refine below_set ?_ (by first | exact Nat.le_refl _ | (dsimp only; omega) | omega)) | (with_reducible refine below_tr (by with_reducible assumption) ?_)))
    clear hb1
    go_wp2_with fail
    refine (HT.out _ (by have h1 := Hw1.out; (repeat (first | (with_reducible exact Below.refl _ _) | (with_reducible assumption) | (with_reducible refine below_al ?_) | (with_reducible refine below_dr ?_) | (with_reducible refine below_drN ?_) | (with_reducible refine below_set ?_ (by first | exact Nat.le_refl _ | (dsimp only; omega) | omega)) | (with_reducible refine below_tr (by with_reducible assumption) ?_))))).mono ?_
    rintro e w2 ⟨b, rfl, hbb, hBm, hml, hb2⟩
    have HBm := Lib.hid hBm
    have Hw2 : Hid (Below w.heap.size w w2) := by (have h1 := Hw1.out; show Below _ _ _; (repeat (first | (with_reducible exact Below.refl _ _) | (with_reducible assumption) | (with_reducible refine below_al ?_) | (with_reducible refine below_dr ?_) | (with_reducible refine below_drN ?_) | (with_reducible refine below_set ?_ (by first | exact Nat.le_refl _ | (dsimp only; omega) | omega)) | (with_reducible refine below_tr (by with_reducible assumption) ?_))))
    have HML := Lib.hid hml
    clear hBm hml
    go_wp2_with fail
    go_loopw [9, 24] (fun v x wr => ∃ k : Nat, k ≤ L.length ∧ x = .int .i64 k ∧ OwnI wr w.heap.size v (tgTo met k) ∧ Blk wr b (bools met) 4 ∧ v.ownBlock ≠ some b ∧ Below w.heap.size w wr) (fun _ x _ => L.length - (intOf x).toNat)
    case atStart => exact ⟨0, by omega, rfl, (OwnI.emptyAt rfl Hw1.out.size).below hb2, HBm.out, fun e => by have : w1.heap.size = b := Option.some.inj e; simp at hbb; omega, Hw2.out⟩
    case round =>
      obtain ⟨k, hk, rfl, hO, hBk, hne, hb⟩ := hrel
      have HO := Lib.hid hO
      have HBk := Lib.hid hBk
      have Hne := Lib.hid hne
      have Hb := Lib.hid hb
      by_cases hkL : k < L.length
      · have hkm : k < met.length := by rw [HML.out]; exact hkL
        have x0 := hBk.bool k hkm
        have HS := Lib.hid (tgTo_succ met k)
        have hg : met.getD k false = met[k] := by simp [hkm]
        have hlen := tgTo_len met k
        have hlt := hBk.lt
        clear hO hBk hne hb
        cases hmk : met[k]
        · have HS2 : Hid (tgTo met (k + 1) = tgTo met k) := by rw [Hid, HS.out, hg, hmk]; simp
          rw [hmk] at x0
          clear hg hmk
          go_wp2_with fail
          go_roundw
          case rel => exact ⟨k + 1, by omega, by go_num, by rw [HS2.out]; exact HO.out, HBk.out, Hne.out, Hb.out⟩
          case measure => simp [intOf]; omega
        · have HS2 : Hid (tgTo met (k + 1) = tgTo met k ++ [(k : Int)]) := by rw [Hid, HS.out, hg, hmk]; simp
          rw [hmk] at x0
          clear hg hmk
          go_wp2_with (at_builtin; refine Hold.of ?_)
          refine Hold.to ?_
          refine wpl_app_int rfl (.tmp 30) (.tmp 32) rfl w.heap.size _ _ (k : Int) rfl (HO.out.alloc _) wr.heap.size 0 rfl (cell_alloc_at _ _ _ _ _ rfl) (by omega) (by have := Hb.out.size; simp; omega) (fun v' w' h1 h2 h3 => ?_)
          rw [← HS2.out] at h1
          have h4 := below_grown (below_al Hb.out) h2 (HO.out.alloc _) (Nat.le_refl _)
          have hBn := (HBk.out.alloc _).grown h2 (fun e => Hne.out e.symm)
          have hne2 : v'.ownBlock ≠ some b := by
            rcases h3 with h3 | h3
            · rw [h3]; exact Hne.out
            · rw [h3]; intro e; have := Option.some.inj e; simp at this; omega
          have HO1 := Lib.hid h1
          have H4 := Lib.hid h4
          have HBn := Lib.hid hBn
          have HN2 := Lib.hid hne2
          clear h1 h2 h3 h4 hBn hne2 x0
          go_wp2_with fail
          go_roundw
          case rel => exact ⟨k + 1, by omega, by go_num, HO1.out, HBn.out, HN2.out, H4.out⟩
          case measure => simp [intOf]; omega
      · obtain rfl : k = L.length := by omega
        clear hO hBk hne hb
        go_wp2
        go_ret2
        exact ⟨_, rfl, by rw [HF1.out]; exact HO.out, Hb.out⟩
  · have HF1 : Hid (tgV c ts L i = []) := by rw [Hid, HV1.out, HV.out, if_neg h0]
    rw [HV.out]
    generalize codeB (isSetB c ts) (stepB ts.length L i 0 0) = d at *
    have hne : (d != 0) = true := by simpa using h0
    clear h0
    go_enter Tryz.func24, Tryz.ntmps24
    go_wp2_with fail
    refine (HC.out _ (by (repeat (first | (with_reducible exact Below.refl _ _) | (with_reducible assumption) | (with_reducible refine below_al ?_) | (with_reducible refine below_dr ?_) | (with_reducible refine below_drN ?_) | (with_reducible refine below_set ?_ (by first | exact Nat.le_refl _ | (dsimp only; omega) | omega)) | (with_reducible refine below_tr (by with_reducible assumption) ?_))))).mono ?_
    rintro e w1 ⟨rfl, hb1⟩
    have Hw1 : Hid (Below w.heap.size w w1) := by (show Below _ _ _); (repeat (first | (with_reducible exact Below.refl _ _) | (with_reducible assumption) | (with_reducible refine below_al ?_) | (with_reducible refine below_dr ?_) | (with_reducible refine below_drN ?_) | (with_reducible refine below_set ?_ (by first | exact Nat.le_refl _ | (dsimp only; omega) | omega)) | (with_reducible refine below_tr (by with_reducible assumption) ?_)))
    clear hb1
    go_wp2
    go_ret2
    exact ⟨_, rfl, by rw [HF1.out]; exact OwnI.nil _ _, Hw1.out⟩

end Go.Proofs.YtkgnejhflnekaaaGreat
