/- Contracts and lemmas for the statements of this seat, written for this claim; each theorem states its own conditions. -/
import Derived.Test.YtnoehaphbpkpjaaGreatFoW4
import Derived.Test.YtnoehaphbpkpjaaGreatFoSe
import Derived.Test.YtnoehaphbpkpjaaGreatFoTm1
set_option linter.unusedVariables false
set_option linter.unusedSimpArgs false
namespace Go.Proofs.YtnoehaphbpkpjaaGreat
open Go.RowKit
attribute [local go_sem] addUpon_value addUpon_skip addUpon_enter
theorem infoGoInt : (Tryz.prog.info? 3).map (fun i => (i.zero, i.size, i.bytes)) = some (some (.int .i64 0), 1, 8) := by kernel_rfl
theorem make_goint (n : Nat) (h : n ≤ 1000000000) (w : World) : (Instr.makeSlice 119 (.int .i64 (n : Int)) (.int .i64 (n : Int))).run Tryz.prog w = .ok (.slice (some ⟨w.heap.size, 0, none⟩) n n) (w.alloc (.cells (madeCells #[.int .i64 0] n) 3)) := by
  have := make_k (P := Tryz.prog) 119 3 _ 1 8 Tryz.underlying119 infoGoInt n (by omega) (by omega) w
  rw [Nat.mul_one] at this
  exact this
/-- the words on which ways are endless to both sides, up to a number -/
def lastW (X Y : List Bool) (k : Nat) : List Int := ((List.range k).filter fun i => X.getD i false && Y.getD i false).map fun i : Nat => (i : Int)
def placeW (S : Nat) (X Y : List Bool) (k : Nat) : List Int := (List.range S).map fun i => if i < k ∧ (X.getD i false && Y.getD i false) = true then ((lastW X Y i).length : Int) else 0
theorem lastW_succ (X Y : List Bool) (k : Nat) : lastW X Y (k + 1) = if (X.getD k false && Y.getD k false) = true then lastW X Y k ++ [(k : Int)] else lastW X Y k := by
  unfold lastW
  rw [List.range_succ, List.filter_append, List.map_append]
  by_cases h : (X.getD k false && Y.getD k false) = true
  · rw [if_pos h]; simp only [List.filter_cons, h, if_true, List.filter_nil, List.map_cons, List.map_nil]
  · rw [if_neg h]; simp only [List.filter_cons, show (X.getD k false && Y.getD k false) = false by simpa using h, Bool.false_eq_true, if_false, List.filter_nil, List.map_nil, List.append_nil]
theorem lastW_len (X Y : List Bool) (k : Nat) : (lastW X Y k).length ≤ k := by
  unfold lastW
  rw [List.length_map]
  exact Nat.le_trans (List.length_filter_le ..) (by simp)
theorem lastW_mono (X Y : List Bool) (k : Nat) : ∀ d, (lastW X Y k).length ≤ (lastW X Y (k + d)).length
  | 0 => Nat.le_refl _
  | d + 1 => by
    have := lastW_mono X Y k d
    rw [show k + (d + 1) = (k + d) + 1 by omega, lastW_succ]
    split
    · rw [List.length_append]; omega
    · exact this
theorem placeW_len (S : Nat) (X Y : List Bool) (k : Nat) : (placeW S X Y k).length = S := by simp [placeW]
theorem placeW_zero (S : Nat) (X Y : List Bool) : placeW S X Y 0 = List.replicate S 0 := by
  unfold placeW
  apply List.ext_getElem
  · simp
  · intro i h1 h2; simp
theorem placeW_put (S : Nat) (X Y : List Bool) (k : Nat) (hk : k < S) (h : (X.getD k false && Y.getD k false) = true) : placeW S X Y (k + 1) = (placeW S X Y k).set k ((lastW X Y k).length : Int) := by
  apply List.ext_getElem
  · simp [placeW]
  · intro i h1 h2
    rw [List.getElem_set]
    simp only [placeW, List.getElem_map, List.getElem_range]
    by_cases e : k = i
    · subst e; rw [if_pos rfl, if_pos ⟨by omega, h⟩]
    · rw [if_neg e]
      have : (i < k + 1 ∧ (X.getD i false && Y.getD i false) = true) ↔ (i < k ∧ (X.getD i false && Y.getD i false) = true) := ⟨fun ⟨a, b⟩ => ⟨by omega, b⟩, fun ⟨a, b⟩ => ⟨by omega, b⟩⟩
      simp only [this]
theorem placeW_skip (S : Nat) (X Y : List Bool) (k : Nat) (h : (X.getD k false && Y.getD k false) = false) : placeW S X Y (k + 1) = placeW S X Y k := by
  unfold placeW
  apply List.map_congr_left
  intro i _
  have : (i < k + 1 ∧ (X.getD i false && Y.getD i false) = true) ↔ (i < k ∧ (X.getD i false && Y.getD i false) = true) := by
    constructor
    · rintro ⟨a, b⟩
      refine ⟨?_, b⟩
      by_cases e : i = k
      · subst e; rw [h] at b; cases b
      · omega
    · exact fun ⟨a, b⟩ => ⟨by omega, b⟩
  simp only [this]
/-- the place of a lasting word is one of the words -/
theorem placeW_in (S : Nat) (X Y : List Bool) (i : Nat) (hi : i < S) (h : (X.getD i false && Y.getD i false) = true) (h' : i < (placeW S X Y S).length) : ∃ p : Nat, (placeW S X Y S)[i] = (p : Int) ∧ p < (lastW X Y S).length := by
  refine ⟨(lastW X Y i).length, ?_, ?_⟩
  · simp only [placeW, List.getElem_map, List.getElem_range]
    rw [if_pos ⟨hi, h⟩]
  · have h1 : (lastW X Y (i + 1)).length = (lastW X Y i).length + 1 := by rw [lastW_succ, if_pos h]; simp
    have h2 := lastW_mono X Y (i + 1) (S - (i + 1))
    rw [show i + 1 + (S - (i + 1)) = S by omega] at h2
    omega
theorem lastW_some {S : Nat} {X Y : List Bool} : (lastW X Y S).length ≠ 0 ↔ ∃ v, v < S ∧ X.getD v false = true ∧ Y.getD v false = true := by
  unfold lastW
  rw [List.length_map, ← Nat.pos_iff_ne_zero, List.length_pos_iff_exists_mem]
  constructor
  · rintro ⟨v, hv⟩
    rw [List.mem_filter, List.mem_range, Bool.and_eq_true] at hv
    exact ⟨v, hv⟩
  · rintro ⟨v, h1, h2, h3⟩
    exact ⟨v, by rw [List.mem_filter, List.mem_range, Bool.and_eq_true]; exact ⟨h1, h2, h3⟩⟩
theorem getD_of {xs : List Bool} {i : Nat} (h : i < xs.length) : xs.getD i false = xs[i] := by simp [h]
set_option maxRecDepth 100000 in
set_option maxHeartbeats 1000000 in
theorem lasting_c (g : Nat) (c : Int) (A : Option Addr) (n cx : Nat) (h : Int) (S : Nat) (cols : List Col) (w : World) (hS1 : 1 ≤ S) (hS2 : S ≤ 100000) (hC : Codes S cols) (hcl : cols.length ≤ 1000000)
    (hR : StripR w g c A n cx h S cols) :
    Calls Tryz.prog 77 #[.pointer (some ⟨g, 0, none⟩)] w fun e w' => ∃ v t X Y, e = .returned (.tuple #[v, t]) ∧ EndS S cols true false X ∧ EndS S cols false true Y ∧ OwnI w' w.heap.size v (lastW X Y S) ∧ (∃ T, OwnII w' w.heap.size t T) ∧ Below w.heap.size w w' := by
  have HR := Lib.hid hR
  have HE1 := Lib.hid (fun (wq : World) hq => endlessF_c g c A n cx h S cols wq hS1 hS2 hC hcl hq)
  have HE2 := Lib.hid (fun (wq : World) hq => endlessB_c g c A n cx h S cols wq hS1 hS2 hC hcl hq)
  have HC := Lib.hid hC
  clear hR hC
  go_enter Tryz.func77, Tryz.ntmps77
  go_wp2_with fail
  refine (HE1.out _ HR.out).mono ?_
  rintro e w1 ⟨v1, X, rfl, hOX, hEX, hb1⟩
  have Hb1 := Lib.hid hb1
  have HEX := Lib.hid hEX
  obtain ⟨AX, kX, rfl⟩ := hOX.shape
  have HX := Lib.hid hOX.read
  clear hOX hEX hb1
  go_wp2_with fail
  refine (HE2.out _ (HR.out.below Hb1.out)).mono ?_
  rintro e w2 ⟨v2, Y, rfl, hOY, hEY, hb2⟩
  have HEY := Lib.hid hEY
  obtain ⟨AY, kY, rfl⟩ := hOY.shape
  have HY := Lib.hid hOY.read
  have HX2 := Lib.hid (HX.out.below hb2)
  have Hw2 := Lib.hid (Hb1.out.trans (hb2.mono Hb1.out.size))
  obtain ⟨C, cc, hB, hCo⟩ := HR.out.below Hw2.out
  have HCo := Lib.hid hCo
  have c2 := hB.cell 3 (by simp)
  have c3 := hB.cell 4 (by simp)
  simp only [List.getElem_cons_zero, List.getElem_cons_succ] at c2 c3
  have C2 := keepC c2
  have C3 := Lib.hid (keepC c3)
  have hg2 : g < w2.heap.size := hB.lt
  have hlX : X.length = S := HEX.out.1
  have hlY : Y.length = S := HEY.out.1
  rw [hlX, hlY]
  have HlX := Lib.hid hlX
  have HlY := Lib.hid hlY
  have hmk := fun w => make_goint S (by omega) w
  clear hOY hEY hb2 hB hCo hlX hlY HX c2 c3
  go_wp2_with fail
  refine wp_region_plan (.det 1 (.det 2 (.det 3 (.det 4 (.two 0 (.det 6 (.one 5 (.det 7 (.done)))) 5 (.one 0 (.det 6 (.det 7 (.done))))))))) (fun w' => Below (w2).heap.size (w2) w') (fun a a' w' => ∃ x0 x1 x2 x3 x4 x5 x6 x7, a' = ((((((((a.put (some 16) x0).put (some 17) x1).put (some 18) x2).put (some 19) x3).put (some 20) x4).put (some 21) x5).put (some 6) x6).put (some 7) x7) ∧ OwnI w' w2.heap.size x0 [] ∧ x6 = x0 ∧ ∃ bp, x5 = .slice (some ⟨bp, 0, none⟩) S S ∧ x7 = x5 ∧ w2.heap.size ≤ bp ∧ Blk w' bp (ints (placeW S X Y 0)) 3) (by kernel_rfl) (by kernel_rfl) (fun _ _ d _ _ h => by cases d <;> exact h) ((Below.refl _ _).drew) ?_ ?_
  rotate_left
  · rintro a' wa hba ⟨x0, x1, x2, x3, x4, x5, x6, x7, rfl, hP⟩
    obtain ⟨p0, rfl, bp, rfl, rfl, hbp, hBp⟩ := hP
    obtain ⟨A0, k0, rfl, _⟩ := p0.shape
    have HP0 := Lib.hid p0
    have HBp := Lib.hid hBp
    have Hba := Lib.hid hba
    have c2 := C2 _ hba
    have hga : g < wa.heap.size := Nat.lt_of_lt_of_le hg2 hba.size
    clear p0 hBp hba hmk
    go_simp
    go_wp2_with fail
    clear c2
    go_loopw [6, 26] (fun v iv wr => ∃ k : Nat, k ≤ S ∧ iv = .int .i64 k ∧ Hid (OwnI wr w2.heap.size v (lastW X Y k)) ∧ Hid (Blk wr bp (ints (placeW S X Y k)) 3) ∧ Hid (Below w2.heap.size w2 wr)) (fun _ i _ => S - (intOf i).toNat)
    case atStart => exact ⟨0, by omega, rfl, HP0, HBp, Hba⟩
    case round =>
      obtain ⟨k, hk, rfl, HOk, HBk, HWk⟩ := hrel
      have hlk := lastW_len X Y k
      obtain ⟨Ak, kk, rfl, _⟩ := HOk.out.shape
      by_cases hkS : k < S
      · obtain ⟨bX, oX, rfl, hltX, x0⟩ := (HX2.out.below HWk.out) k (by rw [HlX.out]; exact hkS)
        obtain ⟨bY, oY, rfl, hltY, y0⟩ := (HY.out.below HWk.out) k (by rw [HlY.out]; exact hkS)
        have HSucc := Lib.hid (lastW_succ X Y k)
        have HPut := Lib.hid (placeW_put S X Y k hkS)
        have HSkip := Lib.hid (placeW_skip S X Y k)
        rw [getD_of (by rw [HlX.out]; exact hkS), getD_of (by rw [HlY.out]; exact hkS)] at HSucc HPut HSkip
        obtain ⟨x, hx⟩ : ∃ x, X[k]'(by rw [HlX.out]; exact hkS) = x := ⟨_, rfl⟩
        obtain ⟨y, hy⟩ : ∃ y, Y[k]'(by rw [HlY.out]; exact hkS) = y := ⟨_, rfl⟩
        rw [hx] at x0 HSucc HPut HSkip
        rw [hy] at y0 HSucc HPut HSkip
        clear hx hy
        by_cases hxy : (x && y) = true
        · have HSu3 := Lib.hid (HSucc.out.trans (if_pos hxy))
          clear HSucc
          replace HPut := Lib.hid (HPut.out hxy)
          have hxx : x = true := by cases x <;> simp_all
          have hyy : y = true := by cases y <;> simp_all
          subst hxx hyy
          have p0 := HBk.out.cell k (by rw [ints_length, placeW_len]; exact hkS)
          have p1 := HBk.out.frozen k
          obtain ⟨ll, hll⟩ : ∃ ll, (lastW X Y k).length = ll := ⟨_, rfl⟩
          have HLl := Lib.hid hll
          have HOk' := HOk
          rw [hll] at HOk' ⊢
          rw [hll] at hlk
          clear hxy hll
          have hne : (Value.slice Ak ll kk).ownBlock ≠ some bp := own_ne HOk'.out HBk.out (by decide)
          have hO2 : OwnI (wr.setCell ⟨bp, k, none⟩ (.int .i64 ll)) w2.heap.size (.slice Ak ll kk) (lastW X Y k) := World.ownsRow.kept HOk'.out (grownBy_store wr bp k _) (.inr hne)
          have hB2 := HBk.out.set k (.int .i64 ll)
          have hS2 : (wr.setCell ⟨bp, k, none⟩ (.int .i64 ll)).heap.size = wr.heap.size := by simp
          have hW2 := HWk.out.setCell (p := ⟨bp, k, none⟩) hbp (.int .i64 ll)
          have hc2 := cell_alloc_at (wr.setCell ⟨bp, k, none⟩ (.int .i64 ll)) #[.int .i64 k] 2 0 _ rfl
          rw [hS2] at hc2
          have HQ := Lib.hid (And.intro hO2 (And.intro hB2 (And.intro hS2 (And.intro hW2 hc2))))
          clear hO2 hB2 hS2 hW2 hc2
          go_wp2_with (at_builtin; refine Hold.of ?_)
          refine Hold.to ?_
          refine wpl_app_int rfl (.tmp 44) (.tmp 46) rfl w2.heap.size (.slice Ak ll kk) (lastW X Y k) k rfl (HQ.out.1.alloc _) wr.heap.size 0 rfl HQ.out.2.2.2.2 (by rw [HLl.out]; omega) (le_al HQ.out.2.2.2.1.size) (fun v' w' h1 h2 h3 => ?_)
          have hb : Below w2.heap.size w2 w' := Below.grown (below_al HQ.out.2.2.2.1) h2 (le_al HQ.out.2.2.2.1.size) (fun q hq => (World.ownsRow.lt HOk'.out q hq).1)
          have hbk := (HQ.out.2.1.alloc (.cells #[.int .i64 k] 2)).kept1 h2 hne
          rw [ints_set, ← HLl.out, ← HPut.out] at hbk
          rw [← HSu3.out] at h1
          have HF := Lib.hid (And.intro h1 (And.intro hbk hb))
          clear h1 h2 h3 hb hbk
          go_wp2_with fail
          go_roundw
          case rel => exact ⟨k + 1, by omega, by go_num, Lib.hid HF.out.1, Lib.hid HF.out.2.1, Lib.hid HF.out.2.2⟩
          case measure => simp [intOf]; omega
        · have hxy' : (x && y) = false := by simpa using hxy
          have HSucc := Lib.hid (HSucc.out.trans (if_neg hxy))
          have HS2 := Lib.hid (HSkip.out hxy')
          clear hxy'
          cases x <;> cases y
          · clear hxy
            go_wp2_with fail
            go_roundw
            case rel => exact ⟨k + 1, by omega, by go_num, Lib.hid (by rw [HSucc.out]; exact HOk.out), Lib.hid (by rw [HS2.out]; exact HBk.out), HWk⟩
            case measure => simp [intOf]; omega
          · clear hxy
            go_wp2_with fail
            go_roundw
            case rel => exact ⟨k + 1, by omega, by go_num, Lib.hid (by rw [HSucc.out]; exact HOk.out), Lib.hid (by rw [HS2.out]; exact HBk.out), HWk⟩
            case measure => simp [intOf]; omega
          · clear hxy
            go_wp2_with fail
            go_roundw
            case rel => exact ⟨k + 1, by omega, by go_num, Lib.hid (by rw [HSucc.out]; exact HOk.out), Lib.hid (by rw [HS2.out]; exact HBk.out), HWk⟩
            case measure => simp [intOf]; omega
          · exact absurd rfl hxy
      · obtain rfl : k = S := by omega
        obtain ⟨W, hW⟩ : ∃ W, (lastW X Y k).length = W := ⟨_, rfl⟩
        have HWl := Lib.hid hW
        rw [hW] at hlk
        have hOk := HOk.out
        rw [hW]
        have HOw := Lib.hid (show OwnI wr w2.heap.size (.slice Ak W kk) (lastW X Y k) by rw [← hW]; exact hOk)
        obtain ⟨w3, rfl⟩ : ∃ w3, w3 = wr := ⟨wr, rfl⟩
        have hmi := fun w => make_i64 W (by omega) w
        clear hW hOk HOk
        go_wp2_with fail
        go_loopw [9, 52] (fun v iv wr => ∃ q : Nat, q ≤ W ∧ iv = .int .i64 q ∧ Hid (OwnII wr w3.heap.size v (List.replicate q (List.replicate W 0))) ∧ Hid (Below w3.heap.size w3 wr)) (fun _ i _ => W - (intOf i).toNat)
        case atStart => exact ⟨0, by omega, rfl, Lib.hid (OwnII.empty rfl (Nat.le_refl _)), Lib.hid (by (repeat (first | (with_reducible exact Below.refl _ _) | (with_reducible assumption) | (with_reducible refine below_al ?_) | (with_reducible refine below_dr ?_) | (with_reducible refine below_drN ?_) | (with_reducible refine below_set ?_ (by first | exact Nat.le_refl _ | (dsimp only; omega) | omega)) | (with_reducible refine below_tr (by with_reducible assumption) ?_))))⟩
        case round =>
          obtain ⟨q, hq, rfl, HT, HBq⟩ := hrel
          obtain ⟨wq, rfl⟩ : ∃ wq, wq = wr := ⟨wr, rfl⟩
          by_cases hqW : q < W
          · have h2q := Nat.le_trans HWk.out.size HBq.out.size
            obtain ⟨Aq, kq, rfl, _⟩ := HT.out.rows
            rw [List.length_replicate]
            have hO3 : OwnI (wq.alloc (.cells (madeCells #[.int .i64 0] W) 2)) wq.heap.size (.slice (some ⟨wq.heap.size, 0, none⟩) W W) (List.replicate W 0) := OwnI.newly rfl (by simp) (by rw [toList_madeCells_one]; simp [ints]) (Nat.le_refl _) (by simp; omega)
            have hc3 := cell_alloc_at (wq.alloc (.cells (madeCells #[.int .i64 0] W) 2)) #[.slice (some ⟨wq.heap.size, 0, none⟩) W W] 39 0 _ rfl
            have hb3 : Below wq.heap.size wq ((wq.alloc (.cells (madeCells #[.int .i64 0] W) 2)).alloc (.cells #[.slice (some ⟨wq.heap.size, 0, none⟩) W W] 39)) := by (repeat (first | (with_reducible exact Below.refl _ _) | (with_reducible assumption) | (with_reducible refine below_al ?_) | (with_reducible refine below_dr ?_) | (with_reducible refine below_drN ?_) | (with_reducible refine below_set ?_ (by first | exact Nat.le_refl _ | (dsimp only; omega) | omega)) | (with_reducible refine below_tr (by with_reducible assumption) ?_)))
            simp only [World.size_alloc] at hc3
            have HQ := Lib.hid (And.intro hO3 (And.intro hc3 hb3))
            clear hO3 hc3 hb3
            go_wp2_with (at_builtin; refine Hold.of ?_)
            refine Hold.to ?_
            refine wpl_app_row (W0 := wq) rfl (.tmp 54) (.tmp 58) rfl w3.heap.size (.slice Aq q kq) (List.replicate q (List.replicate W 0)) (.slice (some ⟨wq.heap.size, 0, none⟩) W W) (List.replicate W 0) rfl (by have h9 := HT.out; rw [List.length_replicate] at h9; exact h9) HQ.out.2.2 (HQ.out.1.alloc _) (wq.heap.size + 1) 0 rfl HQ.out.2.1 (by simp; omega) HBq.out.size (fun v' w' h1 h2 h3 => ?_)
            have hb : Below w3.heap.size w3 w' := by
              exact Below.grown (HBq.out.trans (HQ.out.2.2.mono HBq.out.size)) h2 (by have := HBq.out.size; simp; omega) h3
            rw [← List.replicate_succ'] at h1
            have HF := Lib.hid (And.intro h1 hb)
            clear h1 h2 h3 hb
            go_wp2_with fail
            go_roundw
            case rel => exact ⟨q + 1, by omega, by go_num, Lib.hid HF.out.1, Lib.hid HF.out.2⟩
            case measure => simp [intOf]; omega
          · obtain rfl : q = W := by omega
            obtain ⟨At, kt, rfl, _⟩ := HT.out.rows
            rw [List.length_replicate]
            have HT0 : Hid (∃ T : List (List Int), T.length = q ∧ (∀ r ∈ T, r.length = q) ∧ OwnII wq w3.heap.size (.slice At q kt) T) := ⟨List.replicate q (List.replicate q 0), by simp, fun r hr => by rw [List.mem_replicate] at hr; rw [hr.2]; simp, by have h9 := HT.out; rw [List.length_replicate] at h9; exact h9⟩
            have HW4 := Lib.hid (HWk.out.trans (HBq.out.mono HWk.out.size))
            have c3 := C3.out wq HW4.out
            have hgq : g < wq.heap.size := Nat.lt_of_lt_of_le hg2 HW4.out.size
            clear HT hmi
            go_wp2_with fail
            clear c3
            go_loopw [66] (fun iv wr => ∃ k : Nat, k ≤ cols.length ∧ iv = .int .i64 k ∧ Hid (∃ T : List (List Int), T.length = q ∧ (∀ r ∈ T, r.length = q) ∧ OwnII wr w3.heap.size (.slice At q kt) T) ∧ Hid (Below w3.heap.size w3 wr)) (fun i _ => cols.length - (intOf i).toNat)
            case atStart => exact ⟨0, by omega, rfl, HT0, HBq⟩
            case round =>
              obtain ⟨m, hm, rfl, HT, HBm⟩ := hrel
              obtain ⟨wk, rfl⟩ : ∃ wk, wk = wr := ⟨wr, rfl⟩
              have HWm := Lib.hid (HWk.out.trans (HBm.out.mono HWk.out.size))
              by_cases hml : m < cols.length
              · obtain ⟨b2, off2, rfl, hlt2, y0, y1, y2⟩ := (HCo.out.below HWm.out) m hml
                have hmem := List.getElem_mem hml
                obtain ⟨⟨w0, w1'⟩, e0, e1⟩ := HC.out _ hmem
                have HbX := Lib.hid (HEX.out.back HC.out (f := true) (t := false) hmem)
                have HbY := Lib.hid (HEY.out.back HC.out (f := false) (t := true) hmem)
                generalize cols[m] = col at *
                simp only [sel, Bool.false_eq_true, if_true, if_false] at HbX HbY
                obtain ⟨wi, hwi⟩ := Int.eq_ofNat_of_zero_le w0
                obtain ⟨ei, hei⟩ := Int.eq_ofNat_of_zero_le e0
                rw [hwi, hei, Int.toNat_natCast, Int.toNat_natCast] at HbX HbY
                rw [hwi] at y0
                rw [hei] at y1
                have hlw : wi < k := by omega
                have hle : ei < k := by omega
                obtain ⟨bX, oX, rfl, hltX, x0⟩ := (HX2.out.below HWm.out) wi (by rw [HlX.out]; exact hlw)
                obtain ⟨bY, oY, rfl, hltY, z0⟩ := (HY.out.below HWm.out) ei (by rw [HlY.out]; exact hle)
                rw [getD_of (by rw [HlX.out]; exact hlw)] at HbX
                rw [getD_of (by rw [HlY.out]; exact hle)] at HbY
                have HgX := Lib.hid (getD_of (xs := X) (i := wi) (by rw [HlX.out]; exact hlw))
                have HgY := Lib.hid (getD_of (xs := Y) (i := ei) (by rw [HlY.out]; exact hle))
                obtain ⟨x, hx⟩ : ∃ x, X[wi]'(by rw [HlX.out]; exact hlw) = x := ⟨_, rfl⟩
                obtain ⟨y, hy⟩ : ∃ y, Y[ei]'(by rw [HlY.out]; exact hle) = y := ⟨_, rfl⟩
                rw [hx] at x0 HbX HgX
                rw [hy] at z0 HbY HgY
                clear hx hy hwi hei w0 w1' e0 e1 hmem
                obtain ⟨wt, hwt⟩ : ∃ wt, wt = wk.alloc (.cells #[.int .i64 wi, .int .i64 ei, .int .i64 col.n] 104) := ⟨_, rfl⟩
                have HBt := Lib.hid (show Below wk.heap.size wk wt by rw [hwt]; (repeat (first | (with_reducible exact Below.refl _ _) | (with_reducible assumption) | (with_reducible refine below_al ?_) | (with_reducible refine below_dr ?_) | (with_reducible refine below_drN ?_) | (with_reducible refine below_set ?_ (by first | exact Nat.le_refl _ | (dsimp only; omega) | omega)) | (with_reducible refine below_tr (by with_reducible assumption) ?_))))
                have HBu := Lib.hid (HBm.out.trans (HBt.out.mono HBm.out.size))
                have U0 := keepC (show wt.cell? ⟨wk.heap.size, 0, none⟩ = some (.int .i64 wi) by rw [hwt]; exact cell_alloc_at _ _ _ _ _ rfl)
                have U1 := keepC (show wt.cell? ⟨wk.heap.size, 1, none⟩ = some (.int .i64 ei) by rw [hwt]; exact cell_alloc_at _ _ _ _ _ rfl)
                replace hwt := Lib.hid hwt
                obtain ⟨T, hT1, hT2, hT3⟩ := HT.out
                have HT1 := Lib.hid hT1
                have HT2 := Lib.hid hT2
                have HT3 := Lib.hid hT3
                clear hT1 hT2 hT3
                cases x
                · clear U0 U1
                  go_wp2_with fail
                  go_roundw
                  case rel => exact ⟨m + 1, by omega, by go_num, Lib.hid ⟨T, HT1.out, HT2.out, HT3.out.below (by (repeat (first | (with_reducible exact Below.refl _ _) | (with_reducible assumption) | (with_reducible refine below_al ?_) | (with_reducible refine below_dr ?_) | (with_reducible refine below_drN ?_) | (with_reducible refine below_set ?_ (by first | exact Nat.le_refl _ | (dsimp only; omega) | omega)) | (with_reducible refine below_tr (by with_reducible assumption) ?_))))⟩, Lib.hid (by have h9 := HBm.out; (repeat (first | (with_reducible exact Below.refl _ _) | (with_reducible assumption) | (with_reducible refine below_al ?_) | (with_reducible refine below_dr ?_) | (with_reducible refine below_drN ?_) | (with_reducible refine below_set ?_ (by first | exact Nat.le_refl _ | (dsimp only; omega) | omega)) | (with_reducible refine below_tr (by with_reducible assumption) ?_))))⟩
                  case measure => simp [intOf]; omega
                · cases y
                  · clear U0 U1
                    go_wp2_with fail
                    go_roundw
                    case rel => exact ⟨m + 1, by omega, by go_num, Lib.hid ⟨T, HT1.out, HT2.out, HT3.out.below (by (repeat (first | (with_reducible exact Below.refl _ _) | (with_reducible assumption) | (with_reducible refine below_al ?_) | (with_reducible refine below_dr ?_) | (with_reducible refine below_drN ?_) | (with_reducible refine below_set ?_ (by first | exact Nat.le_refl _ | (dsimp only; omega) | omega)) | (with_reducible refine below_tr (by with_reducible assumption) ?_))))⟩, Lib.hid (by have h9 := HBm.out; (repeat (first | (with_reducible exact Below.refl _ _) | (with_reducible assumption) | (with_reducible refine below_al ?_) | (with_reducible refine below_dr ?_) | (with_reducible refine below_drN ?_) | (with_reducible refine below_set ?_ (by first | exact Nat.le_refl _ | (dsimp only; omega) | omega)) | (with_reducible refine below_tr (by with_reducible assumption) ?_))))⟩
                    case measure => simp [intOf]; omega
                  · have hw2 : (X.getD wi false && Y.getD wi false) = true := by rw [HgX.out, HbY.out rfl]; rfl
                    have he2 : (X.getD ei false && Y.getD ei false) = true := by rw [HbX.out rfl, HgY.out]; rfl
                    obtain ⟨p, hp, hpl⟩ := placeW_in k X Y wi hlw hw2 (by rw [placeW_len]; exact hlw)
                    obtain ⟨s, hs, hsl⟩ := placeW_in k X Y ei hle he2 (by rw [placeW_len]; exact hle)
                    rw [HWl.out] at hpl hsl
                    have hbk := HBk.out.below HBu.out HBk.out.lt
                    have p0 := hbk.int wi (by rw [placeW_len]; exact hlw)
                    have s0 := hbk.int ei (by rw [placeW_len]; exact hle)
                    rw [hp] at p0
                    rw [hs] at s0
                    have P0 := keepC p0
                    have S0 := keepC s0
                    obtain ⟨gv, gr, cr, rfl, a1, a2, a3, a4, a5, a6, a7, a8⟩ := (HT3.out.below HBt.out).at2 p (by rw [HT1.out]; exact hpl) s (by rw [HT2.out _ (List.getElem_mem _)]; exact hsl)
                    rw [HT2.out _ (List.getElem_mem _)] at a3
                    generalize (T[p]'_)[s]'_ = z at a6
                    have A3 := keepC a3
                    have A6 := keepC a6
                    have A7 := fun wz (hz : Below wt.heap.size wt wz) => (hz.frozen (p := ⟨gr, s, none⟩) a5).trans a7
                    clear hw2 he2 hp hs hbk p0 s0 a3 a6 a7 a8
                    go_wp2_with fail
                    rw [← hwt.out]
                    refine wp_region_add_tail 17 (fun w' => Below (wt).heap.size (wt) w') (by kernel_rfl) (by kernel_rfl) ((Below.refl _ _).drew) ?_
                    simp only [List.take_succ_cons, List.take_zero, List.drop_succ_cons, List.drop_zero]
                    repeat (first
                      | (refine add_skip rfl (fun K' hK' => ?_); go_simp; refine hK' _ ?_; clear hK' K')
                      | (refine add_do (v := ?_) rfl (fun w1 hb => ?_) (fun K' hK' => ?_); rotate_left
                         · go_simp
                           first
                           | (with_reducible exact rfl)
                           | (with_reducible exact ⟨rfl, hb⟩)
                           | exact rfl
                           | exact ⟨rfl, hb⟩
                         go_simp; refine hK' _ ?_; clear hK' K'))
                    refine add_nil ?_
                    intro wa hba
                    have HTa := Lib.hid ((HT3.out.below HBt.out).below hba)
                    have hba3 := A3 _ hba
                    have m1 := A6 _ hba
                    have m2 := A7 _ hba
                    have HSet : Hid (∀ y, ∃ T' : List (List Int), T'.length = q ∧ (∀ r ∈ T', r.length = q) ∧ OwnII (wa.setCell ⟨gr, s, none⟩ (.int .i64 y)) w3.heap.size (.slice (some ⟨gv, 0, none⟩) q kt) T') := by
                      show ∀ y, _
                      obtain ⟨gv', gr', cr', e1, _, _, b3, _, _, _, _, b8⟩ := HTa.out.at2 p (by rw [HT1.out]; exact hpl) s (by rw [HT2.out _ (List.getElem_mem _)]; exact hsl)
                      injection e1 with e1; injection e1 with e1 _; subst e1
                      rw [hba3] at b3
                      injection b3 with b3; injection b3 with b3 _ _; injection b3 with b3; injection b3 with b3 _; subst b3
                      exact fun y => ⟨_, by rw [List.length_set]; exact HT1.out, fun r hr => by
                        rcases List.mem_or_eq_of_mem_set hr with h9 | h9
                        · exact HT2.out r h9
                        · rw [h9, List.length_set]; exact HT2.out _ (List.getElem_mem _), b8 y⟩
                    have HBa := Lib.hid (HBu.out.trans (hba.mono HBu.out.size))
                    clear hba U0 U1 P0 S0 A3 A6 A7 hba3
                    go_wp2_with fail
                    go_roundw
                    case rel => exact ⟨m + 1, by omega, by go_num, Lib.hid (HSet.out _), Lib.hid (HBa.out.setCell a4 _)⟩
                    case measure => simp [intOf]; omega
              · obtain rfl : m = cols.length := by omega
                obtain ⟨T, hT1, hT2, hT3⟩ := HT.out
                have HF := Lib.hid (hT3.weaken (B' := w.heap.size) (Nat.le_trans Hw2.out.size HWk.out.size))
                have HO := Lib.hid ((HOw.out.below HBm.out).weaken (B' := w.heap.size) Hw2.out.size)
                clear hT1 hT2 hT3
                go_wp2_with fail
                go_ret2
                exact ⟨_, _, X, Y, rfl, HEX.out, HEY.out, HO.out, ⟨_, HF.out⟩, Hw2.out.trans (HWm.out.mono Hw2.out.size)⟩
  repeat (first
    | (refine plan_skip rfl rfl (fun K' hK' => ?_); go_simp; refine hK' _ ?_; clear hK' K')
    | (refine plan_do (v := ?_) rfl rfl (fun w1 hb => ?_) (fun K' hK' => ?_); rotate_left
       · go_simp
         rfl
       go_simp; refine hK' _ ?_; clear hK' K'))
  refine plan_two ?_ ?_
  · refine step_op rfl rfl (fun K' hK' => ?_)
    go_simp
    refine hK' _ _ (below_al (Below.refl _ w2).drew) ?_; clear hK' K'
    repeat (first
      | (refine plan_skip rfl rfl (fun K' hK' => ?_); go_simp; refine hK' _ ?_; clear hK' K')
      | (refine plan_do (v := ?_) rfl rfl (fun w1 hb => ?_) (fun K' hK' => ?_); rotate_left
         · go_simp
           rfl
         go_simp; refine hK' _ ?_; clear hK' K'))
    refine plan_one (step_op rfl rfl (fun K' hK' => ?_))
    go_simp
    refine hK' _ _ (below_al (below_al (Below.refl _ w2).drew)) ?_; clear hK' K'
    repeat (first
      | (refine plan_skip rfl rfl (fun K' hK' => ?_); go_simp; refine hK' _ ?_; clear hK' K')
      | (refine plan_do (v := ?_) rfl rfl (fun w1 hb => ?_) (fun K' hK' => ?_); rotate_left
         · go_simp
           rfl
         go_simp; refine hK' _ ?_; clear hK' K'))
    refine plan_done ⟨?_, ?_, ?_, ?_, ?_, ?_, ?_, ?_, ?_, ?_⟩
    rotate_left 8
    · go_simp; (first | rfl | (and_intros <;> rfl))
    · exact ⟨OwnI.alloc (OwnI.newly (xs := []) (by simp) rfl (by simp [ints]) (Nat.le_refl _) (by simp)) _, rfl, _, rfl, rfl, by simp, by rw [placeW_zero]; have h9 := (Blk.newA (w2.alloc (.cells #[] 2)) (madeCells #[.int .i64 0] S) 3).drew; rw [toList_madeCells_one] at h9; simpa [ints] using h9⟩
  · refine step_op rfl rfl (fun K' hK' => ?_)
    go_simp
    refine hK' _ _ (below_al (Below.refl _ w2).drew) ?_; clear hK' K'
    refine plan_one (step_op rfl rfl (fun K' hK' => ?_))
    go_simp
    refine hK' _ _ (below_al (below_al (Below.refl _ w2).drew)) ?_; clear hK' K'
    repeat (first
      | (refine plan_skip rfl rfl (fun K' hK' => ?_); go_simp; refine hK' _ ?_; clear hK' K')
      | (refine plan_do (v := ?_) rfl rfl (fun w1 hb => ?_) (fun K' hK' => ?_); rotate_left
         · go_simp
           rfl
         go_simp; refine hK' _ ?_; clear hK' K'))
    refine plan_done ⟨?_, ?_, ?_, ?_, ?_, ?_, ?_, ?_, ?_, ?_⟩
    rotate_left 8
    · go_simp; (first | rfl | (and_intros <;> rfl))
    · exact ⟨OwnI.newly (xs := []) (by simp) rfl (by simp [ints]) (le_al (Nat.le_refl _)) (by simp), rfl, _, rfl, rfl, Nat.le_refl _, by rw [placeW_zero]; have h9 := ((Blk.newA w2 (madeCells #[.int .i64 0] S) 3).alloc (.cells #[] 2)).drew; rw [toList_madeCells_one] at h9; simpa [ints] using h9⟩

end Go.Proofs.YtnoehaphbpkpjaaGreat
namespace Go.Proofs.YtnoehaphbpkpjaaGreat
open Go.RowKit
theorem endL_more {S : Nat} {cols : List Col} (hC : Codes S cols) (f t : Bool) : ∀ (d m : Nat), (endL S cols f t (m + d)).contains true = true → (endL S cols f t m).contains true = true
  | 0, m, h => h
  | d + 1, m, h => by
    refine endL_more hC f t d m ?_
    rw [List.contains_iff_mem, List.mem_iff_getElem] at h ⊢
    obtain ⟨i, hi, e⟩ := h
    rw [endL_len] at hi
    have := endL_less hC f t (m + d) i hi (by rw [show m + d + 1 = m + (d + 1) from rfl, List.getD_eq_getElem?_getD, List.getElem?_eq_getElem (by rw [endL_len]; exact hi)]; exact e)
    refine ⟨i, by rw [endL_len]; exact hi, ?_⟩
    simpa [endL_len, hi] using this
/-- where a way ends, there is a first number of columns that ends it -/
theorem endL_first {S : Nat} {cols : List Col} {L : Nat} (h : (endL S cols true false (L + 1)).contains true = false) : ∃ q, q ≤ L ∧ (∀ i, i < q → (endL S cols true false (i + 1)).contains true = true) ∧ (endL S cols true false (q + 1)).contains true = false := by
  obtain ⟨q, hq, hmin⟩ := exists_least (p := fun q => (endL S cols true false (q + 1)).contains true = false) ⟨L, h⟩
  refine ⟨q, hmin L h, fun i hi => ?_, hq⟩
  cases h3 : (endL S cols true false (i + 1)).contains true
  · have := hmin i h3; omega
  · rfl
theorem fr_bel {bn : Nat} {w0 w w' : World} (h : Below w0.heap.size w0 w) (hF : Fr (· = bn) w w') (hbn : w0.heap.size ≤ bn) : Below w0.heap.size w0 w' :=
  h.trans (hF.under h.size fun k hk => by have hk : k = bn := hk; omega)
set_option maxRecDepth 100000 in
set_option maxHeartbeats 1000000 in
theorem implWidest_c (c : Int) (ts : List T4) (A : Option Addr) (cx : Nat) (h : Int) (w : World) (hT : TileCells w A ts) (hl : ts.length ≤ 1000000000) :
    Calls Tryz.prog 26 #[.agg #[.int .i64 c, .slice A ts.length cx], .int .i64 h] w fun e w' => e = .returned (.tuple #[.int .i64 (wfVal c ts h), .int .i64 (wfCode c ts h)]) ∧ Below w.heap.size w w' := by
  have HC := Lib.hid (fun (wq : World) (hwq : Below w.heap.size w wq) => traceStrip_c c ts A cx h 76 #[] true wq (fun _ _ => rfl) (hT.below hwq) hl (fun hs w1 hb => always_c w1))
  have hv : wfVal c ts h = if tsCode c ts h true = 0 then (((wfN (powC c h.toNat).toNat (lev c ts h.toNat)).getD 0 : Nat) : Int) else 0 := rfl
  have hv2 : wfCode c ts h = if tsCode c ts h true = 0 then (if (wfN (powC c h.toNat).toNat (lev c ts h.toNat)).isSome = true then 0 else 4) else tsCode c ts h true := rfl
  have hz := Lib.hid (tsCode_zero (c := c) (ts := ts) (h := h) (fine := true))
  clear hT
  generalize hcode : tsCode c ts h true = code at *
  go_enter Tryz.func26, Tryz.ntmps26
  go_wp2_with fail
  refine (HC.out _ (by (repeat (first | (with_reducible exact Below.refl _ _) | (with_reducible assumption) | (with_reducible refine below_al ?_) | (with_reducible refine below_dr ?_) | (with_reducible refine below_drN ?_) | (with_reducible refine below_set ?_ (by first | exact Nat.le_refl _ | (dsimp only; omega) | omega)) | (with_reducible refine below_tr (by with_reducible assumption) ?_))))).mono ?_
  rintro e w1 ⟨hb1, ⟨hne, rfl⟩ | ⟨h0, g, hn, rfl, rfl, hg, hS⟩⟩
  · rw [hcode] at hne ⊢
    rw [if_neg hne] at hv hv2
    have Hw1 : Hid (Below w.heap.size w w1) := by (show Below _ _ _); (repeat (first | (with_reducible exact Below.refl _ _) | (with_reducible assumption) | (with_reducible refine below_al ?_) | (with_reducible refine below_dr ?_) | (with_reducible refine below_drN ?_) | (with_reducible refine below_set ?_ (by first | exact Nat.le_refl _ | (dsimp only; omega) | omega)) | (with_reducible refine below_tr (by with_reducible assumption) ?_)))
    have hcz : (code != 0) = true := by simp [hne]
    have HV := Lib.hid hv
    have HV2 := Lib.hid hv2
    clear hb1 hne hcode hv hv2
    unfold stripEnd
    go_wp2
    go_ret2
    exact ⟨by rw [HV.out, HV2.out]; rfl, Hw1.out⟩
  · obtain rfl : code = 0 := by rw [← hcode]; exact h0
    rw [if_pos rfl, Int.toNat_natCast] at hv hv2
    obtain ⟨hs, _, n1, n3, hp⟩ := hz.out rfl
    rw [Int.toNat_natCast] at hp
    have Hw1 : Hid (Below w.heap.size w w1) := by (show Below _ _ _); (repeat (first | (with_reducible exact Below.refl _ _) | (with_reducible assumption) | (with_reducible refine below_al ?_) | (with_reducible refine below_dr ?_) | (with_reducible refine below_drN ?_) | (with_reducible refine below_set ?_ (by first | exact Nat.le_refl _ | (dsimp only; omega) | omega)) | (with_reducible refine below_tr (by with_reducible assumption) ?_)))
    have hgb : g < w1.heap.size := by obtain ⟨_, _, hB, _⟩ := hS; exact hB.lt
    obtain ⟨_, ⟨c1, c6⟩, h16⟩ := isSetB_parts hs
    have p1 := powC_4 c1 c6 (h := hn) (by omega)
    have hll := Nat.le_trans (lev_len c ts hn) (pow16 h16 (by omega : hn ≤ 3))
    have hcs := lev_Codes hs hn
    obtain ⟨S, hS'⟩ := Int.eq_ofNat_of_zero_le (by omega : 0 ≤ powC c hn)
    rw [hS'] at hS hcs p1 hp hv hv2
    rw [Int.toNat_natCast] at hcs hv hv2
    have HCs := Lib.hid hcs
    have HS := Lib.hid hS
    have HL := Lib.hid (lasting_c g c A ts.length cx hn S (lev c ts hn) w1 (by omega) (by omega) hcs (by omega) hS)
    have HSq := Lib.hid (fun bn q w hR hbn hq hgo hst hsep => sequenceW_c g c A ts.length cx hn S (lev c ts hn) bn q w (by omega) (by omega) hcs (by omega) hR hbn hq hgo hst hsep)
    have HV := Lib.hid hv
    have HV2 := Lib.hid hv2
    clear hb1 hcode hS hcs hS' hz h0 hv hv2 hs n1 n3 hp p1
    generalize lev c ts hn = cols at *
    unfold stripEnd
    go_wp2_with fail
    refine HL.out.mono ?_
    rintro e w2 ⟨v, t, X, Y, rfl, hX, hY, hO, ⟨T, hT⟩, hb2⟩
    have hli := lasting_iff HCs.out hX hY
    rw [← lastW_some] at hli
    obtain ⟨Av, kv, rfl, _⟩ := hO.shape
    obtain ⟨At, kt, rfl, _⟩ := hT.rows
    have Hb2 := Lib.hid hb2
    have Hw2 := Lib.hid (Hw1.out.trans (hb2.mono Hw1.out.size))
    have HLi := Lib.hid hli
    clear hO hT hX hY hb2 hli
    generalize (lastW X Y S).length = W at *
    by_cases hW : W = 0
    · subst hW
      have hf : (endL S cols true false (cols.length + 1)).contains true = false := by
        cases h3 : (endL S cols true false (cols.length + 1)).contains true
        · rfl
        · exact absurd rfl (HLi.out.2 h3)
      obtain ⟨q, hq, hgo, hst⟩ := endL_first hf
      have HN := Lib.hid (wfN_some hq hgo hst)
      have HSt := Lib.hid hst
      have HGo := Lib.hid hgo
      clear hf hst hgo
      go_wp2_with fail
      have hb9 := Hb2.out.alloc Hb2.out.size (.cells #[.int .i64 0] 2)
      refine (HSq.out w2.heap.size q _ (HS.out.below hb9) (by simpa using Blk.new w2 [.int .i64 0] 2) (by omega) HGo.out HSt.out (fun w' hF => HS.out.below (fr_bel hb9 hF Hb2.out.size))).mono ?_
      rintro e w3 ⟨rfl, hB3, hF3⟩
      have q0 := hB3.cell 0 (by simp)
      simp only [List.getElem_cons_zero] at q0
      have Hw3 := Lib.hid (Hw1.out.trans ((fr_bel hb9 hF3 Hb2.out.size).mono Hw1.out.size))
      clear hB3 hF3 hb9
      go_wp2
      go_ret2
      exact ⟨by rw [HV.out, HV2.out, HN.out]; rfl, Hw3.out⟩
    · have hN := wfN_none (S := S) (cols := cols) fun i hi => by
        obtain ⟨d, hd⟩ : ∃ d, cols.length + 1 = i + 1 + d := ⟨cols.length - i, by omega⟩
        have h3 := HLi.out.1 hW
        rw [hd] at h3
        exact endL_more HCs.out true false d (i + 1) h3
      have HN := Lib.hid hN
      have hW2 : (0 : Int) < (W : Int) := by omega
      clear hN hW
      go_wp2
      go_ret2
      exact ⟨by rw [HV.out, HV2.out, HN.out]; rfl, Hw2.out⟩

end Go.Proofs.YtnoehaphbpkpjaaGreat
