/- Contracts and lemmas for the statements of this seat, written for this claim; each theorem states its own conditions. -/
import Derived.Test.YtfkmophmiiehlaaKbN3
set_option linter.unusedVariables false
set_option linter.unusedSimpArgs false
namespace Go.Proofs.Ytfkmophmiiehlaa
open Go.RowKit
/-- what a call gives back that returns a new list of lists of tiles and a code -/
def RetTT (w : World) (L : List (List T4)) (c : Int) (e : Ending) (w' : World) : Prop :=
  ∃ v, e = .returned (.tuple #[v, .int .i64 c]) ∧ OwnTT w' w.heap.size v L ∧ Below w.heap.size w w'
def btOk (ts : List T4) (b : Int) (L : List (List P2)) : Bool := shapeP L && boardOf ts b
def btV (ts : List T4) (b : Int) (L : List (List P2)) : List (List T4) := if (btOk ts b L && boardB ts b L) = true then gridG ts L L.length else []
def btC (ts : List T4) (b : Int) (L : List (List P2)) : Int := if btOk ts b L = true then (if boardB ts b L = true then 0 else 4) else 2
theorem btOk_len {ts : List T4} {b : Int} {L : List (List P2)} (h : btOk ts b L = true) : shapeP L = true ∧ ts.length ≤ 6 := by
  unfold btOk boardOf at h
  simp only [Bool.and_eq_true, inR_iff] at h
  exact ⟨h.1, by omega⟩
theorem board_ok {ts : List T4} {b : Int} {L : List (List P2)} (h : boardB ts b L = true) : L.length * wid L = ts.length ∧ ∀ y, y < L.length → ∀ x, x < wid L → okA ts L y x = true := by
  unfold boardB at h
  rw [decide_eq_true_eq] at h
  exact ⟨h.1, fun y hy x hx => (h.2 y hy x hx).1⟩
set_option maxRecDepth 100000 in
set_option maxHeartbeats 1000000 in
theorem specBoardTiles_c (ts : List T4) (A : Option Addr) (cx : Nat) (b : Int) (L : List (List P2)) (R : Option Addr) (cR : Nat) (w : World) (hT : TileCells w A ts) (hl : ts.length ≤ 1000000000) (hR : RowsP w R L) (hL : L.length ≤ 1048576) (hS : ShortP 1048576 L) :
    Calls Try.prog 20 #[.slice A ts.length cx, .int .i64 b, .slice R L.length cR] w (RetTT w (btV ts b L) (btC ts b L)) := by
  have hsz := l07Sizes_c ts A cx b L R cR w hT hl hR (by omega) (fun k h => by have := hS k h; omega)
  have HV : Hid (btV ts b L = if (btOk ts b L && boardB ts b L) = true then gridG ts L L.length else []) := rfl
  have HC : Hid (btC ts b L = if btOk ts b L = true then (if boardB ts b L = true then 0 else 4) else 2) := rfl
  have hcode : sizesCode ts b L = if btOk ts b L = true then 0 else 2 := by unfold sizesCode btOk; simp only [Bool.and_eq_true]
  rw [hcode] at hsz
  clear hcode
  cases hok : btOk ts b L
  · rw [hok] at hsz HV HC
    simp only [Bool.false_eq_true, if_false] at hsz
    have HSz := Lib.hid hsz
    clear hok hsz hT hR hS
    go_enter Try.func20, Try.ntmps20
    go_wp2_with fail
    refine HSz.out.mono ?_
    rintro e w1 ⟨rfl, hb⟩
    go_wp2
    go_ret2
    exact ⟨_, by rw [HC.out]; rfl, by rw [HV.out]; exact OwnTT.nil _ _, hb⟩
  · rw [hok] at hsz HV HC
    simp only [if_true] at hsz
    obtain ⟨hsh, h6⟩ := btOk_len hok
    have HSz := Lib.hid hsz
    obtain ⟨h0, h1, hall⟩ := shape_row hsh
    have hwl : wid L ≤ 1048576 := by rw [wid_get h0]; exact hS 0 h0
    have HI := Lib.hid (fun (w : World) (hT : TileCells w A ts) (hR : RowsP w R L) => l07Is_c ts A cx b L R cR w hT h6 hR hL hsh hwl)
    have HA := Lib.hid hall
    have HR := Lib.hid hR
    have HT := Lib.hid hT
    have HP := Lib.hid (fun e : boardB ts b L = true => board_ok e)
    clear hok hsz hsh hT hR hS hall
    generalize hhh : L.length = h at *
    have Hh := Lib.hid hhh
    clear hhh
    generalize wid L = wd at *
    cases hbd : boardB ts b L
    · rw [hbd] at HI HV HC
      clear hbd
      go_enter Try.func20, Try.ntmps20
      go_wp2_with fail
      refine HSz.out.mono ?_
      rintro e w1 ⟨rfl, hb⟩
      have Hb := Lib.hid hb
      clear hb
      go_wp2_with fail
      refine (HI.out _ (HT.out.below Hb.out) (HR.out.below Hb.out)).mono ?_
      rintro e w2 ⟨rfl, hb2⟩
      go_wp2
      go_ret2
      exact ⟨_, by rw [HC.out]; rfl, by rw [HV.out]; exact OwnTT.nil _ _, Hb.out.trans (hb2.mono Hb.out.size)⟩
    · rw [hbd] at HI HV HC
      have HOK := Lib.hid (HP.out hbd).2
      have HSzz := Lib.hid (HP.out hbd).1
      clear hbd
      go_enter Try.func20, Try.ntmps20
      go_wp2_with fail
      refine HSz.out.mono ?_
      rintro e w1 ⟨rfl, hb⟩
      have Hb := Lib.hid hb
      clear hb
      go_wp2_with fail
      refine (HI.out _ (HT.out.below Hb.out) (HR.out.below Hb.out)).mono ?_
      rintro e w2 ⟨rfl, hb2⟩
      have Hb2 := Lib.hid (Hb.out.trans (hb2.mono Hb.out.size))
      clear hb2
      go_wp2_with fail
      go_loopw [9, 10] (fun v yv wr => ∃ y : Nat, y ≤ h ∧ yv = .int .i64 y ∧ Hid (OwnTT wr w.heap.size v (gridG ts L y)) ∧ Hid (Below w.heap.size w wr)) (fun _ yv _ => h - (intOf yv).toNat)
      case atStart =>
        refine ⟨0, by omega, rfl, ?_, ?_⟩
        · show OwnTT _ _ _ _
          exact OwnTT.empty rfl Hb2.out.size
        · show Below _ _ _
          exact below_al Hb2.out
      case round =>
        obtain ⟨y, hy, rfl, HO, HW⟩ := hrel
        by_cases hyh : y < h
        · have hyL : y < L.length := by rw [Hh.out]; exact hyh
          have hrl := HA.out y hyh
          have HRL := Lib.hid hrl
          clear hrl
          obtain ⟨w0, rfl⟩ : ∃ w0, w0 = wr := ⟨wr, rfl⟩
          go_wp2_with fail
          go_loopw [11, 12] (fun v xv wi => ∃ x : Nat, x ≤ wd ∧ xv = .int .i64 x ∧ Hid (OwnT wi w0.heap.size v (rowG ts L y x)) ∧ Hid (Below w0.heap.size w0 wi)) (fun _ xv _ => wd - (intOf xv).toNat)
          case atStart =>
            refine ⟨0, by omega, rfl, ?_, ?_⟩
            · show OwnT _ _ _ _
              exact OwnT.empty w0 _ (Nat.le_refl _)
            · show Below _ _ _
              exact below_al (Below.refl _ _)
          case round =>
            obtain ⟨x, hx, rfl, HOr, HF⟩ := hrel
            have HWr := Lib.hid (HW.out.trans (HF.out.mono HW.out.size))
            obtain ⟨bR, oR, A2, c2, rfl, hltR, hcR, hpR⟩ := HR.out.at_ y hyL
            rw [HRL.out] at hcR
            have hcR' := (HWr.out.cell (p := ⟨bR, oR + y, none⟩) hltR).trans hcR
            by_cases hxw : x < wd
            · obtain ⟨bP, oP, rfl, hltP, p0, p1⟩ := hpR.at_ (by rw [HRL.out]; exact hxw)
              obtain ⟨t, n, ht, hn, htl, hn3, _, htile⟩ := okA_parts (HOK.out y hyh x hxw)
              rw [ht] at p0
              rw [hn] at p1
              have HTile : Hid (tileAt ts (cellP L y x) = turnN (ts[t]'htl) n) := by
                show _ = _
                rw [htile]
                simp [htl]
              have HRow := Lib.hid (rowG_succ (ts := ts) (L := L) (y := y) (x := x) (by rw [HRL.out]; exact hxw))
              have HRowL := Lib.hid (rowG_len (ts := ts) (L := L) (y := y) (x := x) (by rw [HRL.out]; exact hx))
              obtain ⟨bT, oT, rfl, hltT, t0, t1, t2, t3⟩ := HT.out t htl
              have tc : ∀ (bb o : Nat) (v : Value), bb < w.heap.size → w.cell? ⟨bb, o, none⟩ = some v → ∀ w1, Below w0.heap.size wr w1 → w1.cell? ⟨bb, o, none⟩ = some v := fun bb o v hbb hv w1 h => (h.cell (p := ⟨bb, o, none⟩) (by have := HW.out.size; dsimp only; omega)).trans ((HWr.out.cell (p := ⟨bb, o, none⟩) hbb).trans hv)
              have e0 := tc _ _ _ hltP p0
              have e1 := tc _ _ _ hltP p1
              have e2 := tc _ _ _ hltT t0
              have e3 := tc _ _ _ hltT t1
              have e4 := tc _ _ _ hltT t2
              have e5 := tc _ _ _ hltT t3
              have e6 := tc _ _ _ hltR hcR
              have HTu := Lib.hid (fun w => l07Turn_c (ts[t]'htl) n (by omega) w)
              have hsr : w0.heap.size ≤ wr.heap.size := HF.out.size
              generalize ts[t]'htl = tt at *
              clear tc t0 t1 t2 t3 p0 p1 hcR hpR ht hn htile
              go_wp2_with fail
              clear hcR'
              refine wp_region_mix [(0, true), (1, true), (2, true), (3, true), (4, true), (5, true), (6, true), (7, true), (8, true), (9, true), (10, true), (11, true), (12, true), (13, true), (14, true), (15, true), (16, true), (17, true), (18, true), (19, true), (20, false), (21, false), (22, false), (23, false)] (fun w' => Below w0.heap.size wr w') (by kernel_rfl) (by kernel_rfl) (fun _ _ d _ _ h => by cases d <;> exact h) (((Below.refl _ _).mono hsr).drew) ?_
              repeat (first
                | (refine mix_skip rfl rfl (fun K' hK' => ?_); go_simp; refine hK' _ ?_; clear hK' K')
                | (refine mix_do (v := ?_) rfl rfl (fun w1 hb => ?_) (fun K' hK' => ?_); rotate_left
                   · go_simp
                     rfl
                   go_simp; refine hK' _ ?_; clear hK' K'))
              refine mix_call rfl rfl (fun K' hK' => ?_)
              go_simp
              refine (HTu.out _).mono ?_
              rintro e w6 ⟨rfl, hb6⟩
              generalize turnN tt n = uu at *
              have hb6' : Below wr.heap.size wr w6 := ((Below.refl _ _).drew).trans hb6
              have KO6 := Lib.hid (HOr.out.below hb6')
              refine hK' _ _ (hb6'.mono hsr) ?_; clear hK' K'
              refine mix_call rfl rfl (fun K' hK' => ?_)
              go_simp
              refine hK' _ _ ((hb6'.alloc hb6'.size _).mono hsr) ?_; clear hK' K'
              refine mix_call rfl rfl (fun K' hK' => ?_)
              refine app_tiles (.tmp 42) (.tmp 63) rfl w0.heap.size _ (rowG ts L y x) [uu] rfl (KO6.out.alloc _) ⟨w6.heap.size, 0, none⟩ 1 rfl (fun j u hj => new_cells w6 [.int .i64 uu.a, .int .i64 uu.b, .int .i64 uu.c, .int .i64 uu.d] _ j u hj) (by rw [HRowL.out]; show x + 1 ≤ _; omega) (by have h1 := hb6'.size; simp; omega) (fun v' w' b1 b2 b3 => ?_)
              have hB : Below w0.heap.size wr w' := ((hb6'.alloc hb6'.size _).mono hsr).grown b2 (by have h1 := hb6'.size; simp; omega) (fun k hk => (HOr.out.blt k hk).1)
              refine hK' _ _ hB ?_
              clear hK' K'
              refine mix_call rfl rfl (fun K' hK' => ?_)
              go_simp
              refine hK' _ _ (hB) ?_; clear hK' K'
              refine mix_nil ?_
              have HB1 := Lib.hid b1
              have HB2 := Lib.hid (HF.out.trans hB)
              clear b1 b2 b3 hB e0 e1 e2 e3 e4 e5 e6 hb6 hb6' hsr
              go_wp2_with fail
              go_roundw
              case rel => exact ⟨x + 1, by omega, by go_num, by show OwnT _ _ _ _; rw [HRow.out, HTile.out]; exact HB1.out, HB2.out⟩
              case measure => simp [intOf]; omega
            · have hxe : x = wd := by omega
              have HGR : Hid (gridG ts L (y + 1) = gridG ts L y ++ [rowG ts L y x]) := by show _ = _; rw [gridG_succ hyL, HRL.out, hxe]
              have HGL := Lib.hid (gridG_len (ts := ts) (L := L) (y := y) (by rw [Hh.out]; omega))
              obtain ⟨Ar, cr, e12, _⟩ := HOr.out.tiles
              rw [rowG_len (by rw [HRL.out]; exact hx)] at e12
              subst e12
              clear hxe
              go_wp2_with (at_builtin; refine Hold.of ?_)
              refine Hold.to ?_
              refine wpl_app_trow (W0 := w0) rfl (.tmp 65) (.tmp 67) rfl w.heap.size u9 (gridG ts L y) (.slice Ar x cr) (rowG ts L y x) rfl HO.out (HF.out.alloc HF.out.size _) (HOr.out.alloc _) wr.heap.size 0 rfl (cell_alloc_at wr #[.slice Ar x cr] _ 0 (.slice Ar x cr) rfl) (by rw [HGL.out]; omega) HW.out.size (fun v' w' b1 b2 b3 => ?_)
              have c2 : Below w.heap.size w w' := (below_al HWr.out).grown b2 (by have := HWr.out.size; simp; omega) (fun k hk => by have := b3 k hk; omega)
              have C2 := Lib.hid c2
              have B1 := Lib.hid b1
              clear b1 b2 b3 c2
              go_wp2_with fail
              go_roundw
              case rel => exact ⟨y + 1, by omega, by go_num, by show OwnTT _ _ _ _; rw [HGR.out]; exact B1.out, C2.out⟩
              case measure => simp [intOf]; omega
        · have hyh' : y = h := by omega
          go_wp2
          go_ret2
          exact ⟨_, by rw [HC.out]; rfl, by rw [HV.out, ← hyh']; exact HO.out, HW.out⟩

end Go.Proofs.Ytfkmophmiiehlaa
