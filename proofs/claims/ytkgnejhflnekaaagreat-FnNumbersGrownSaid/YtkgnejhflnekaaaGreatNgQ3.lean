/- Contracts and lemmas for the statements of this seat, written for this claim; each theorem states its own conditions. -/
import Derived.Test.YtkgnejhflnekaaaGreatNgQ2
import Derived.Test.YtkgnejhflnekaaaGreatNgTg
import Derived.Test.YtkgnejhflnekaaaGreatNgGt
import Derived.Test.YtkgnejhflnekaaaGreatNgSu
import Derived.Test.YtkgnejhflnekaaaGreatNgDr
set_option linter.unusedVariables false
set_option linter.unusedSimpArgs false
namespace Go.Proofs.YtkgnejhflnekaaaGreat
open Go.RowKit
theorem blk_row {w : World} {B : Option Addr} {N : Nat} {L : List (List Int)} (hR : RowsC w B L) (hB : Blocks N L) {k : Nat} (hk : k < L.length) :
    ∃ b off b1 o1 cx, B = some ⟨b, off, none⟩ ∧ b < w.heap.size ∧ b1 < w.heap.size ∧ w.cell? ⟨b, off + k, none⟩ = some (.slice (some ⟨b1, o1, none⟩) 4 cx) ∧ w.cell? ⟨b1, o1, none⟩ = some (.int .i64 (qAt L k 0)) ∧
      w.cell? ⟨b1, o1 + 1, none⟩ = some (.int .i64 (qAt L k 1)) ∧ w.cell? ⟨b1, o1 + 2, none⟩ = some (.int .i64 (qAt L k 2)) ∧ w.cell? ⟨b1, o1 + 3, none⟩ = some (.int .i64 (qAt L k 3)) := by
  obtain ⟨b, off, A, cx, e, hlt, hc, hr⟩ := hR k hk
  have h4 := (hB.2 k hk).1
  have q := fun (m : Nat) (hm : m < 4) => (hr.int m (by omega))
  obtain ⟨b1, o1, e1, hlt1, c0⟩ := q 0 (by omega)
  subst e1
  have c1 := q 1 (by omega)
  have c2 := q 2 (by omega)
  have c3 := q 3 (by omega)
  obtain ⟨_, _, e1, _, c1⟩ := c1
  injection e1 with e1; injection e1 with e1 e1'; subst e1 e1'
  obtain ⟨_, _, e2, _, c2⟩ := c2
  injection e2 with e2; injection e2 with e2 e2'; subst e2 e2'
  obtain ⟨_, _, e3, _, c3⟩ := c3
  injection e3 with e3; injection e3 with e3 e3'; subst e3 e3'
  rw [qAt_eq hB hk] at c0 c1 c2 c3
  rw [h4] at hc
  exact ⟨b, off, b1, o1, cx, e, hlt, hlt1, hc, c0, c1, c2, c3⟩
noncomputable def pgV (c : Int) (ts : List T4) (L : List (List Int)) (i : Int) : List (List Int) := if tgCode c ts L i = 0 then prows (prV L (metV L i)) else []
theorem prV_len (L : List (List Int)) (T : List Bool) : (prV L T).length ≤ L.length * L.length := prTo_len _ _ _
theorem sq16 {n : Nat} (h : n ≤ 16) : n * n ≤ 256 := Nat.mul_le_mul h h
theorem Blk.belowB {w w1 : World} {b : Nat} {cs : List Value} {T : TypeId} (h : Blk w b cs T) (hb : Below w.heap.size w w1) : Blk w1 b cs T := (hb.block b h.lt).trans h
/-- where the reference stands in its first loop, and in its second -/
structure PSt (w wr : World) (bm bt : Nat) (v : Value) (met T : List Bool) (list : List P22) : Prop where
  own : OwnIX wr w.heap.size (fun k => k = bm ∨ k = bt) v (prows list)
  blk : Blk wr bm (bools met) 4
  tbl : Blk wr bt (bools T) 4
  sub : Below w.heap.size w wr
  hbm : w.heap.size ≤ bm
  hbt : w.heap.size ≤ bt
  ne : bt ≠ bm
theorem PSt.below {w wr W : World} {bm bt : Nat} {v : Value} {met T : List Bool} {list : List P22} (h : PSt w wr bm bt v met T list) (hb : Below wr.heap.size wr W) : PSt w W bm bt v met T list :=
  ⟨h.own.below hb, h.blk.belowB hb, h.tbl.belowB hb, h.sub.trans (hb.mono h.sub.size), h.hbm, h.hbt, h.ne⟩
theorem PSt.set {w wr : World} {bm bt : Nat} {v : Value} {met T : List Bool} {list : List P22} (h : PSt w wr bm bt v met T list) (k : Nat) (x : Bool) : PSt w (wr.setCell ⟨bm, k, none⟩ (.bool x)) bm bt v (met.set k x) T list :=
  ⟨h.own.store ⟨bm, k, none⟩ (.inl rfl) _, h.blk.setBool k x, h.tbl.other (a := ⟨bm, k, none⟩) h.ne _, h.sub.setCell h.hbm _, h.hbm, h.hbt, h.ne⟩
theorem PSt.app {w wr W w' : World} {bm bt : Nat} {v v' : Value} {met T : List Bool} {list list' : List P22} (h : PSt w wr bm bt v met T list) (hW : Below wr.heap.size wr W) (hg : W.grownBy w' v.ownBlock)
    (ho : OwnIX w' w.heap.size (fun k => k = bm ∨ k = bt) v' (prows list')) : PSt w w' bm bt v' met T list' :=
  ⟨ho, (h.blk.belowB hW).grown hg (h.own.off (.inl rfl)), (h.tbl.belowB hW).grown hg (h.own.off (.inr rfl)), Below.grown (h.sub.trans (hW.mono h.sub.size)) hg (Nat.le_trans h.sub.size hW.size) (fun k hk => h.own.ge k hk), h.hbm, h.hbt, h.ne⟩
theorem PSt.lt {w wr : World} {bm bt : Nat} {v : Value} {met T : List Bool} {list : List P22} (h : PSt w wr bm bt v met T list) : ∀ k, (k = bm ∨ k = bt) → k < wr.heap.size := fun k hk => by
  rcases hk with rfl | rfl
  · exact h.blk.lt
  · exact h.tbl.lt
theorem pr_row {w : World} {A : Option Addr} {list : List P22} (hR : RowsC w A (prows list)) {a : Nat} (ha : a < list.length) :
    ∃ b off b1 o1 cx, A = some ⟨b, off, none⟩ ∧ b < w.heap.size ∧ b1 < w.heap.size ∧ w.cell? ⟨b, off + a, none⟩ = some (.slice (some ⟨b1, o1, none⟩) 2 cx) ∧ w.cell? ⟨b1, o1, none⟩ = some (.int .i64 (list[a].1 : Nat)) ∧
      w.cell? ⟨b1, o1 + 1, none⟩ = some (.int .i64 (list[a].2 : Nat)) := by
  obtain ⟨b, off, A1, cx, e, hlt, hc, hr⟩ := hR a (by rw [prows_length]; exact ha)
  have e2 : (prows list)[a]'(by rw [prows_length]; exact ha) = prow list[a] := by simp [prows]
  rw [e2] at hc hr
  obtain ⟨b1, o1, e1, hlt1, c0⟩ := hr.int 0 (by simp [prow])
  subst e1
  obtain ⟨_, _, e1, _, c1⟩ := hr.int 1 (by simp [prow])
  injection e1 with e1; injection e1 with e1 e1'; subst e1 e1'
  exact ⟨b, off, b1, o1, cx, e, hlt, hlt1, hc, c0, c1⟩
set_option maxRecDepth 100000 in
set_option maxHeartbeats 4000000 in
theorem specPairsGrown_c (c : Int) (ts : List T4) (A : Option Addr) (cx : Nat) (L : List (List Int)) (B : Option Addr) (cr : Nat) (i : Int) (w : World) (hT : TileCells w A ts) (hl : ts.length ≤ 1000000000) (hR : RowsC w B L) (hn : L.length ≤ 1000000000) (hS : Short 1000000000 L) :
    Calls Tryz.prog 33 #[.agg #[.int .i64 c, .slice A ts.length cx], .slice B L.length cr, .int .i64 i] w (RetIIC3 w (pgV c ts L i) (tgCode c ts L i)) := by
  have HC := Lib.hid (fun (wq : World) (hq : Below w.heap.size w wq) => l09Tile_c c ts A cx L B cr i 0 0 wq (hT.below hq) hl (hR.below hq) hn hS)
  have HR := Lib.hid hR
  have HV : Hid (tgCode c ts L i = codeB (isSetB c ts) (stepB ts.length L i 0 0)) := rfl
  have HV1 : Hid (pgV c ts L i = if tgCode c ts L i = 0 then prows (prV L (metV L i)) else []) := rfl
  clear hT hR
  by_cases h0 : codeB (isSetB c ts) (stepB ts.length L i 0 0) = 0
  · obtain ⟨hs, hst⟩ := codeB_zero h0
    obtain ⟨hB, ⟨i0, i1⟩, -⟩ := stepB_parts hst
    have h16 := (isSetB_small hs).2
    obtain ⟨im, rfl⟩ := Int.eq_ofNat_of_zero_le i0
    have HT := Lib.hid (fun (wq : World) (hq : Below w.heap.size w wq) => l09Tiles_c L B cr im ts.length wq (HR.out.below hq) hB (by omega) h16)
    have hL16 : L.length ≤ 16 := by rw [hB.1]; omega
    have hBL : Blocks L.length L := by have := hB; rw [← hB.1] at this; exact this
    have HB := Lib.hid hBL
    rw [h0] at HV HC
    have hc0 := HV.out
    have HF1 : Hid (pgV c ts L im = prows (prV L (metV L im))) := by rw [Hid, HV1.out, if_pos hc0]
    rw [hc0]
    clear hs hst hB hBL i0 i1 h0 hc0 HV HV1 hS
    obtain ⟨M, hM⟩ : ∃ M, M = L.length * L.length := ⟨_, rfl⟩
    have hM2 : M ≤ 256 := by rw [hM]; exact sq16 hL16
    have em : IntKind.i64.wrap ((L.length : Int) * (L.length : Int)) = (M : Int) := by
      rw [show ((L.length : Int) * (L.length : Int)) = (M : Int) by rw [hM]; simp]
      exact IntWalk.i64_in _ (by omega)
    have hmk := make_b M (by omega)
    have HM := Lib.hid hM
    clear hM
    generalize metV L im = met at *
    go_enter Tryz.func33, Tryz.ntmps33
    go_wp2_with fail
    refine (HC.out _ (by (repeat (first | (with_reducible exact Below.refl _ _) | (with_reducible assumption) | (with_reducible refine below_al ?_) | (with_reducible refine below_dr ?_) | (with_reducible refine below_drN ?_) | (with_reducible refine below_set ?_ (by first | exact Nat.le_refl _ | (dsimp only; omega) | omega)) | (with_reducible refine below_tr (by with_reducible assumption) ?_))))).mono ?_
    rintro e w1 ⟨rfl, hb1⟩
    have Hw1 : Hid (Below w.heap.size w w1) := by (show Below _ _ _); (repeat (first | (with_reducible exact Below.refl _ _) | (with_reducible assumption) | (with_reducible refine below_al ?_) | (with_reducible refine below_dr ?_) | (with_reducible refine below_drN ?_) | (with_reducible refine below_set ?_ (by first | exact Nat.le_refl _ | (dsimp only; omega) | omega)) | (with_reducible refine below_tr (by with_reducible assumption) ?_)))
    clear hb1
    go_wp2_with fail
    refine wp_region_plan (.det 0 (.det 1 (.det 2 (.det 4 (.det 5 (.three 3 (.two 6 (.det 8 (.det 9 (.one 7 (.det 10 (.done))))) 7 (.one 6 (.det 8 (.det 9 (.det 10 (.done)))))) 6 (.two 3 (.det 8 (.det 9 (.one 7 (.det 10 (.done))))) 7 (.one 3 (.det 8 (.det 9 (.det 10 (.done)))))) 7 (.two 3 (.one 6 (.det 8 (.det 9 (.det 10 (.done))))) 6 (.one 3 (.det 8 (.det 9 (.det 10 (.done)))))))))))) (fun w' => Below (w).heap.size (w) w') (fun a a' w' => ∃ x0 x1 x2 x3 x4 x5 x6 x7 x8 x9 x10, a' = (((((((((((a.put (some 31) x0).put (some 32) x1).put (some 33) x2).put (some 34) x3).put (some 35) x4).put (some 36) x5).put (some 37) x6).put (some 38) x7).put (some 10) x8).put (some 11) x9).put (some 12) x10) ∧ ∃ bm bt, x3 = .slice (some ⟨bm, 0, none⟩) M M ∧ x8 = x3 ∧ x6 = .slice (some ⟨bt, 0, none⟩) L.length L.length ∧ x9 = x6 ∧ x10 = x7 ∧ Hid (PSt w w' bm bt x7 (List.replicate M false) met []) ∧ Hid (met.length = L.length)) (by kernel_rfl) (by kernel_rfl) (fun _ _ d _ _ h => by cases d <;> exact h) (Hw1.out.drew) ?_ ?_
    rotate_left
    · rintro a' wa hba ⟨x0, x1, x2, x3, x4, x5, x6, x7, x8, x9, x10, rfl, hP⟩
      obtain ⟨bm, bt, rfl, rfl, rfl, rfl, rfl, HF, HML⟩ := hP
      obtain ⟨A7, c7, e7, -⟩ := HF.out.own.shape
      have e7 : x10 = .slice A7 0 c7 := e7
      subst e7
      clear hba hmk
      go_simp
      go_wp2_with fail
      go_loopw [12, 13] (fun v kv wr => ∃ k : Nat, k ≤ L.length ∧ kv = .int .i64 k ∧ Hid (PSt w wr bm bt v (List.replicate M false) met (pbase L met k))) (fun _ kv _ => L.length - (intOf kv).toNat)
      case atStart => exact ⟨0, by omega, rfl, HF⟩
      case round =>
        obtain ⟨k, hk, rfl, HS⟩ := hrel
        obtain ⟨A3, c3, rfl, -⟩ := HS.out.own.shape
        have HLN : Hid ((pbase L met k).length ≤ 1000) := by have := pbase_len L met k; show _ ≤ _; omega
        by_cases hkL : k < L.length
        · have hkm : k < met.length := by rw [HML.out]; exact hkL
          have y0 := HS.out.tbl.bool k hkm
          have hg : met.getD k false = met[k] := by simp [hkm]
          obtain ⟨b, off, b1, o1, cb, rfl, hlt, hlt1, r0, n0, n1, n2, n3⟩ := blk_row HR.out HB.out hkL
          have R0 := keepC r0
          have N0 := keepC n0
          have N1 := keepC n1
          have N2 := keepC n2
          have N3 := keepC n3
          have hsub := HS.out.sub
          have r1 := R0 _ hsub
          have hltW : b < wr.heap.size := Nat.lt_of_lt_of_le hlt hsub.size
          have hltW1 : b1 < wr.heap.size := Nat.lt_of_lt_of_le hlt1 hsub.size
          have hbtW : bt < wr.heap.size := HS.out.tbl.lt
          have Hsub := Lib.hid hsub
          clear r0 n0 n1 n2 n3 hsub
          obtain ⟨ll, hll⟩ : ∃ ll, ll = (prows (pbase L met k)).length := ⟨_, rfl⟩
          rw [← hll]
          cases hmk : met[k]
          · have HE : Hid (pbase L met (k + 1) = pbase L met k) := by show pbase L met k ++ _ = _; rw [hg, hmk]; simp
            rw [hmk] at y0
            clear hg hmk
            go_wp2_with fail
            go_roundw
            case rel => exact ⟨k + 1, by omega, by go_num, by rw [HE.out, hll]; exact HS⟩
            case measure => simp [intOf]; omega
          · have HE : Hid (pbase L met (k + 1) = pbase L met k ++ [pb1 L k, pb2 L k]) := by show pbase L met k ++ _ = _; rw [hg, hmk]; simp
            rw [hmk] at y0
            clear hg hmk
            rw [hll]
            clear hll
            go_wp2_with fail
            refine wp_region_plan (.det 0 (.det 1 (.det 2 (.det 3 (.det 4 (.det 5 (.det 6 (.det 8 (.det 9 (.det 10 (.det 11 (.det 12 (.det 13 (.two 7 (.one 14 (.one 15 (.one 16 (.det 17 (.done))))) 14 (.one 7 (.one 15 (.one 16 (.det 17 (.done))))))))))))))))))) (fun w' => Below (w).heap.size (w) w') (fun a a' w' => ∃ x0 x1 x2 x3 x4 x5 x6 x7 x8 x9 x10 x11 x12 x13 x14 x15 x16 x17, a' = ((((((((((((((((((a.put (some 53) x0).put (some 54) x1).put (some 55) x2).put (some 56) x3).put (some 57) x4).put (some 58) x5).put (some 59) x6).put (some 60) x7).put (some 61) x8).put (some 62) x9).put (some 63) x10).put (some 64) x11).put (some 65) x12).put (some 66) x13).put (some 67) x14).put (some 68) x15).put (some 69) x16).put (some 12) x17) ∧ x17 = x16 ∧ Hid (PSt w w' bm bt x16 (List.replicate M false) met (pbase L met (k + 1)))) (by kernel_rfl) (by kernel_rfl) (fun _ _ d _ _ h => by cases d <;> exact h) (Hsub.out.drew) ?_ ?_
            rotate_left
            · rintro a' wa hba ⟨x0, x1, x2, x3, x4, x5, x6, x7, x8, x9, x10, x11, x12, x13, x14, x15, x16, x17, rfl, hP⟩
              obtain ⟨rfl, HS2⟩ := hP
              obtain ⟨A4, c4, rfl, -⟩ := HS2.out.own.shape
              clear hba y0 r1 R0 N0 N1 N2 N3
              go_simp
              go_wp2_with fail
              go_roundw
              case rel => exact ⟨k + 1, by omega, by go_num, HS2⟩
              case measure => simp [intOf]; omega
            repeat (first
              | (refine plan_skip rfl rfl (fun K' hK' => ?_); go_simp; refine hK' _ ?_; clear hK' K')
              | (refine plan_do (v := ?_) rfl rfl (fun w1 hb => ?_) (fun K' hK' => ?_); rotate_left
                 · go_simp
                   rfl
                 go_simp; refine hK' _ ?_; clear hK' K'))
            generalize hwd : ({ wr with drawn := wr.drawn + 1 } : World) = wd
            have Ywd : Hid (Below wr.heap.size wr wd) := by rw [← hwd]; exact (Below.refl _ _).drew
            clear hwd
            have HSd := Lib.hid (HS.out.below Ywd.out)
            refine plan_two ?_ ?_
            · refine step_op rfl rfl (fun K' hK' => ?_)
              go_simp
              obtain ⟨wa, hn⟩ : ∃ x, x = wd.alloc (.cells #[.int .i64 (qAt L k 0 : Nat), .int .i64 (qAt L k 1 : Nat)] 2) := ⟨_, rfl⟩
              have U1 : Hid (OwnI wa wd.heap.size (.slice (some ⟨wd.heap.size, 0, none⟩) 2 2) (prow (pb1 L k))) := by rw [hn]; exact OwnI.newly rfl rfl rfl (Nat.le_refl _) (by simp [prow])
              have Ywa : Hid (Below wd.heap.size wd wa) := by rw [hn]; exact below_al (Below.refl _ _)
              have Zwa : Hid (wd.heap.size < wa.heap.size) := by rw [hn]; simp [Hid]
              rw [← hn]
              clear hn
              refine hK' _ _ (HSd.out.sub.trans (Ywa.out.mono HSd.out.sub.size)) ?_; clear hK' K'
              refine plan_one (step_op rfl rfl (fun K' hK' => ?_))
              go_simp
              obtain ⟨wb, hn⟩ : ∃ x, x = wa.alloc (.cells #[.int .i64 (qAt L k 2 : Nat), .int .i64 (qAt L k 3 : Nat)] 2) := ⟨_, rfl⟩
              have U2 : Hid (OwnI wb wd.heap.size (.slice (some ⟨wa.heap.size, 0, none⟩) 2 2) (prow (pb2 L k))) := by rw [hn]; exact OwnI.newly rfl rfl rfl Ywa.out.size (by simp [prow])
              have Ywb : Hid (Below wd.heap.size wd wb) := by rw [hn]; exact below_al Ywa.out
              have Xwb : Hid (Below wa.heap.size wa wb) := by rw [hn]; exact below_al (Below.refl _ _)
              have Zwb : Hid (wa.heap.size < wb.heap.size) := by rw [hn]; simp [Hid]
              rw [← hn]
              clear hn
              replace U1 := Lib.hid (U1.out.below Xwb.out)
              refine hK' _ _ (HSd.out.sub.trans (Ywb.out.mono HSd.out.sub.size)) ?_; clear hK' K'
              refine plan_one (step_op rfl rfl (fun K' hK' => ?_))
              go_simp
              obtain ⟨wc, hn⟩ : ∃ x, x = wb.alloc (.cells #[.slice (some ⟨wd.heap.size, 0, none⟩) 2 2, .slice (some ⟨wa.heap.size, 0, none⟩) 2 2] 35) := ⟨_, rfl⟩
              have Xwc : Hid (Below wb.heap.size wb wc) := by rw [hn]; exact below_al (Below.refl _ _)
              have Ywc : Hid (Below wd.heap.size wd wc) := by rw [hn]; exact below_al Ywb.out
              have C1 : Hid (wc.cell? ⟨wb.heap.size, 0, none⟩ = some (.slice (some ⟨wd.heap.size, 0, none⟩) 2 2)) := by rw [hn]; exact cell_alloc_at _ _ _ _ _ rfl
              have C2 : Hid (wc.cell? ⟨wb.heap.size, 0 + 1, none⟩ = some (.slice (some ⟨wa.heap.size, 0, none⟩) 2 2)) := by rw [hn]; exact cell_alloc_at _ _ _ _ _ rfl
              rw [← hn]
              clear hn
              replace U1 := Lib.hid (U1.out.below Xwc.out)
              replace U2 := Lib.hid (U2.out.below Xwc.out)
              refine hK' _ _ (HSd.out.sub.trans (Ywc.out.mono HSd.out.sub.size)) ?_; clear hK' K'
              refine plan_one (step_op rfl rfl (fun K' hK' => ?_))
              refine app_row2X (W0 := wd) (.tmp 53) (.tmp 68) rfl w.heap.size _ (prows (pbase L met k)) (.slice (some ⟨wd.heap.size, 0, none⟩) 2 2) (.slice (some ⟨wa.heap.size, 0, none⟩) 2 2) (prow (pb1 L k)) (prow (pb2 L k)) rfl _ HSd.out.lt HSd.out.own Ywc.out U1.out U2.out (Apart.blk (by have := Zwa.out; omega)) wb.heap.size 0 2 rfl C1.out C2.out (by rw [prows_length]; have := HLN.out; omega) HSd.out.sub.size (fun v' w' h1 h2 h3 => ?_)
              rw [← prows_app2] at h1
              have HP := Lib.hid (HSd.out.app Ywc.out h2 h1)
              clear h1 h2 h3
              refine hK' _ _ (HP.out.sub) ?_; clear hK' K'
              repeat (first
                | (refine plan_skip rfl rfl (fun K' hK' => ?_); go_simp; refine hK' _ ?_; clear hK' K')
                | (refine plan_do (v := ?_) rfl rfl (fun w1 hb => ?_) (fun K' hK' => ?_); rotate_left
                   · go_simp
                     rfl
                   go_simp; refine hK' _ ?_; clear hK' K'))
              refine plan_done ⟨?_, ?_, ?_, ?_, ?_, ?_, ?_, ?_, ?_, ?_, ?_, ?_, ?_, ?_, ?_, ?_, ?_, ?_, ?_, ?_⟩
              rotate_left 18
              · go_simp; (first | rfl | (and_intros <;> rfl))
              · exact ⟨rfl, by rw [HE.out]; exact HP.out⟩
            · refine step_op rfl rfl (fun K' hK' => ?_)
              go_simp
              obtain ⟨wa, hn⟩ : ∃ x, x = wd.alloc (.cells #[.int .i64 (qAt L k 2 : Nat), .int .i64 (qAt L k 3 : Nat)] 2) := ⟨_, rfl⟩
              have U2 : Hid (OwnI wa wd.heap.size (.slice (some ⟨wd.heap.size, 0, none⟩) 2 2) (prow (pb2 L k))) := by rw [hn]; exact OwnI.newly rfl rfl rfl (Nat.le_refl _) (by simp [prow])
              have Ywa : Hid (Below wd.heap.size wd wa) := by rw [hn]; exact below_al (Below.refl _ _)
              have Zwa : Hid (wd.heap.size < wa.heap.size) := by rw [hn]; simp [Hid]
              rw [← hn]
              clear hn
              refine hK' _ _ (HSd.out.sub.trans (Ywa.out.mono HSd.out.sub.size)) ?_; clear hK' K'
              refine plan_one (step_op rfl rfl (fun K' hK' => ?_))
              go_simp
              obtain ⟨wb, hn⟩ : ∃ x, x = wa.alloc (.cells #[.int .i64 (qAt L k 0 : Nat), .int .i64 (qAt L k 1 : Nat)] 2) := ⟨_, rfl⟩
              have U1 : Hid (OwnI wb wd.heap.size (.slice (some ⟨wa.heap.size, 0, none⟩) 2 2) (prow (pb1 L k))) := by rw [hn]; exact OwnI.newly rfl rfl rfl Ywa.out.size (by simp [prow])
              have Ywb : Hid (Below wd.heap.size wd wb) := by rw [hn]; exact below_al Ywa.out
              have Xwb : Hid (Below wa.heap.size wa wb) := by rw [hn]; exact below_al (Below.refl _ _)
              have Zwb : Hid (wa.heap.size < wb.heap.size) := by rw [hn]; simp [Hid]
              rw [← hn]
              clear hn
              replace U2 := Lib.hid (U2.out.below Xwb.out)
              refine hK' _ _ (HSd.out.sub.trans (Ywb.out.mono HSd.out.sub.size)) ?_; clear hK' K'
              refine plan_one (step_op rfl rfl (fun K' hK' => ?_))
              go_simp
              obtain ⟨wc, hn⟩ : ∃ x, x = wb.alloc (.cells #[.slice (some ⟨wa.heap.size, 0, none⟩) 2 2, .slice (some ⟨wd.heap.size, 0, none⟩) 2 2] 35) := ⟨_, rfl⟩
              have Xwc : Hid (Below wb.heap.size wb wc) := by rw [hn]; exact below_al (Below.refl _ _)
              have Ywc : Hid (Below wd.heap.size wd wc) := by rw [hn]; exact below_al Ywb.out
              have C1 : Hid (wc.cell? ⟨wb.heap.size, 0, none⟩ = some (.slice (some ⟨wa.heap.size, 0, none⟩) 2 2)) := by rw [hn]; exact cell_alloc_at _ _ _ _ _ rfl
              have C2 : Hid (wc.cell? ⟨wb.heap.size, 0 + 1, none⟩ = some (.slice (some ⟨wd.heap.size, 0, none⟩) 2 2)) := by rw [hn]; exact cell_alloc_at _ _ _ _ _ rfl
              rw [← hn]
              clear hn
              replace U1 := Lib.hid (U1.out.below Xwc.out)
              replace U2 := Lib.hid (U2.out.below Xwc.out)
              refine hK' _ _ (HSd.out.sub.trans (Ywc.out.mono HSd.out.sub.size)) ?_; clear hK' K'
              refine plan_one (step_op rfl rfl (fun K' hK' => ?_))
              refine app_row2X (W0 := wd) (.tmp 53) (.tmp 68) rfl w.heap.size _ (prows (pbase L met k)) (.slice (some ⟨wa.heap.size, 0, none⟩) 2 2) (.slice (some ⟨wd.heap.size, 0, none⟩) 2 2) (prow (pb1 L k)) (prow (pb2 L k)) rfl _ HSd.out.lt HSd.out.own Ywc.out U1.out U2.out (Apart.blk (by have := Zwa.out; omega)) wb.heap.size 0 2 rfl C1.out C2.out (by rw [prows_length]; have := HLN.out; omega) HSd.out.sub.size (fun v' w' h1 h2 h3 => ?_)
              rw [← prows_app2] at h1
              have HP := Lib.hid (HSd.out.app Ywc.out h2 h1)
              clear h1 h2 h3
              refine hK' _ _ (HP.out.sub) ?_; clear hK' K'
              repeat (first
                | (refine plan_skip rfl rfl (fun K' hK' => ?_); go_simp; refine hK' _ ?_; clear hK' K')
                | (refine plan_do (v := ?_) rfl rfl (fun w1 hb => ?_) (fun K' hK' => ?_); rotate_left
                   · go_simp
                     rfl
                   go_simp; refine hK' _ ?_; clear hK' K'))
              refine plan_done ⟨?_, ?_, ?_, ?_, ?_, ?_, ?_, ?_, ?_, ?_, ?_, ?_, ?_, ?_, ?_, ?_, ?_, ?_, ?_, ?_⟩
              rotate_left 18
              · go_simp; (first | rfl | (and_intros <;> rfl))
              · exact ⟨rfl, by rw [HE.out]; exact HP.out⟩
        · obtain rfl : k = L.length := by omega
          have HI := Lib.hid (PInv.start HB.out met)
          rw [← HM.out] at HI
          have HN0 := Lib.hid HML.out
          clear HLN
          go_wp2_with fail
          go_loopw [12, 15] (fun v av wr => ∃ (a : Nat) (mt : List Bool) (list : List P22), av = .int .i64 a ∧ Hid (PSt w wr bm bt v mt met list) ∧ Hid (PInv L.length L met a mt list)) (fun _ av _ => 1000 - (intOf av).toNat)
          case atStart => exact ⟨0, _, _, rfl, HS, HI⟩
          case round =>
            obtain ⟨a, mt, list, rfl, HS, HI⟩ := hrel
            obtain ⟨A5, c5, rfl, hrows⟩ := HS.out.own.shape
            have HLN : Hid (list.length ≤ 1000) := by have := HI.out.bound; have := sq16 hL16; show _ ≤ _; omega
            have hpl := prows_length list
            obtain ⟨ll, hll⟩ : ∃ ll, ll = (prows list).length := ⟨_, rfl⟩
            rw [← hll] at hpl
            have Hpl := Lib.hid hpl
            have hal := HI.out.le
            by_cases ha : a < list.length
            · have hin := (HI.out.ok _ (List.getElem_mem ha)).1
              have hkey := pkey_lt hin
              rw [← HM.out] at hkey
              have hml := HI.out.ml
              rw [← HM.out] at hml
              obtain ⟨b5, o5, b6, o6, c6, rfl, hlt5, hlt6, q0, q1, q2⟩ := pr_row hrows ha
              have HIs := Lib.hid (fun h => HI.out.skip ha h)
              have HIn := Lib.hid (fun h => HI.out.next HB.out ha h)
              have hKd : pkey L.length list[a] = list[a].1 * L.length + list[a].2 := rfl
              obtain ⟨K, hK⟩ : ∃ K, K = pkey L.length list[a] := ⟨_, rfl⟩
              rw [← hK] at hKd hkey HIs HIn
              have hpn1 : (pn1 L list[a]) = (qAt L list[a].1 1, qAt L list[a].2 0) := rfl
              have hpn2 : (pn2 L list[a]) = (qAt L list[a].1 3, qAt L list[a].2 2) := rfl
              rw [hpn1, hpn2] at HIn
              obtain ⟨hi1, hi2⟩ := hin
              generalize list[a].1 = P at *
              generalize list[a].2 = Q at *
              clear hK hpn1 hpn2
              obtain ⟨PN, hPN⟩ : ∃ PN, PN = P * L.length := ⟨_, rfl⟩
              rw [← hPN] at hKd
              have ew1 : IntKind.i64.wrap ((P : Int) * (L.length : Int)) = (PN : Int) := by
                rw [show ((P : Int) * (L.length : Int)) = (PN : Int) by rw [hPN]; simp]
                exact IntWalk.i64_in _ (by omega)
              have ew2 : IntKind.i64.wrap ((PN : Int) + (Q : Int)) = (K : Int) := by
                rw [show ((PN : Int) + (Q : Int)) = (K : Int) by omega]
                exact IntWalk.i64_in _ (by omega)
              have Hi1 := Lib.hid hi1
              have Hi2 := Lib.hid hi2
              have hKm : K < mt.length := by omega
              have Hml := Lib.hid hml
              have y0 := HS.out.blk.bool K hKm
              have z0 := HS.out.blk.frozen K
              have hg : mt.getD K false = mt[K] := by simp [hKm]
              have haL : a < ll := by omega
              have ha3 : a < 1000 := by have := HLN.out; omega
              have hbmW : bm < wr.heap.size := HS.out.blk.lt
              clear hPN hKd hrows hml hpl
              go_wp2_with fail
              go_quiet (fail)
              cases hmk : mt[K]
              · rw [hmk] at y0
                have HI2 := Lib.hid (HIn.out (by rw [hg, hmk]))
                clear hg HIs HIn
                have HSq := Lib.hid (HS.out.below (W := wr.drewN nq) (below_drN (Below.refl _ _)))
                obtain ⟨wq, hwq⟩ : ∃ wq, wq = wr.drewN nq := ⟨_, rfl⟩
                have hqs : wq.heap.size = wr.heap.size := by rw [hwq]; rfl
                rw [← hwq] at HSq ⊢
                have y0 := HSq.out.blk.bool K hKm
                have z0 := HSq.out.blk.frozen K
                rw [hmk] at y0
                have HSs := Lib.hid (HSq.out.set K true)
                have hbmQ : bm < wq.heap.size := HSq.out.blk.lt
                clear hmk hwq
                go_wp2_with fail
                obtain ⟨ws, hws⟩ : ∃ ws, ws = wq.setCell ⟨bm, K, none⟩ (.bool true) := ⟨_, rfl⟩
                have hss : ws.heap.size = wr.heap.size := by rw [hws]; simp [hqs]
                rw [← hws] at HSs ⊢
                obtain ⟨b, off, b1, o1, cb, rfl, hlt, hlt1, r0, n0, n1, n2, n3⟩ := blk_row HR.out HB.out Hi1.out
                obtain ⟨_, _, b2, o2, cb2, e2, _, hlt2, r20, n20, n21, n22, n23⟩ := blk_row HR.out HB.out Hi2.out
                injection e2 with e2
                injection e2 with e2 e2'
                subst e2 e2'
                have N1 := keepC n1
                have N3 := keepC n3
                have N20 := keepC n20
                have N22 := keepC n22
                replace r0 := keepC r0 _ HSs.out.sub
                replace r20 := keepC r20 _ HSs.out.sub
                clear y0 z0 hws n0 n1 n2 n3 n20 n21 n22 n23
                go_quiet (fail)
                go_wp2_with fail
                obtain ⟨wz, hwz⟩ : ∃ wz, wz = ws.drewN nq := ⟨_, rfl⟩
                have HS := Lib.hid (HSs.out.below (W := ws.drewN nq) (below_drN (Below.refl _ _)))
                have hzs : wz.heap.size = wr.heap.size := by rw [hwz]; exact hss
                rw [← hwz] at HS ⊢
                have Hsub := Lib.hid HS.out.sub
                clear hwz r0 r20
                refine wp_region_plan (.det 0 (.det 1 (.det 2 (.det 3 (.det 4 (.det 5 (.det 6 (.det 8 (.det 9 (.det 10 (.det 11 (.det 12 (.det 13 (.two 7 (.one 14 (.one 15 (.one 16 (.det 17 (.done))))) 14 (.one 7 (.one 15 (.one 16 (.det 17 (.done))))))))))))))))))) (fun w' => Below (w).heap.size (w) w') (fun a a' w' => ∃ x0 x1 x2 x3 x4 x5 x6 x7 x8 x9 x10 x11 x12 x13 x14 x15 x16 x17, a' = ((((((((((((((((((a.put (some 111) x0).put (some 112) x1).put (some 113) x2).put (some 114) x3).put (some 115) x4).put (some 116) x5).put (some 117) x6).put (some 118) x7).put (some 119) x8).put (some 120) x9).put (some 121) x10).put (some 122) x11).put (some 123) x12).put (some 124) x13).put (some 125) x14).put (some 126) x15).put (some 127) x16).put (some 12) x17) ∧ x17 = x16 ∧ Hid (PSt w w' bm bt x16 (mt.set K true) met (list ++ [((qAt L P 1, qAt L Q 0) : P22), ((qAt L P 3, qAt L Q 2) : P22)]))) (by kernel_rfl) (by kernel_rfl) (fun _ _ d _ _ h => by cases d <;> exact h) (Hsub.out.drew) ?_ ?_
                rotate_left
                · rintro a' wa hba ⟨x0, x1, x2, x3, x4, x5, x6, x7, x8, x9, x10, x11, x12, x13, x14, x15, x16, x17, rfl, hP⟩
                  obtain ⟨rfl, HS2⟩ := hP
                  obtain ⟨A4, c4, rfl, -⟩ := HS2.out.own.shape
                  clear hba N1 N3 N20 N22
                  go_simp
                  go_wp2_with fail
                  go_roundw
                  case rel => exact ⟨a + 1, _, _, by go_num, HS2, HI2⟩
                  case measure => simp [intOf]; omega
                repeat (first
                  | (refine plan_skip rfl rfl (fun K' hK' => ?_); go_simp; refine hK' _ ?_; clear hK' K')
                  | (refine plan_do (v := ?_) rfl rfl (fun w1 hb => ?_) (fun K' hK' => ?_); rotate_left
                     · go_simp
                       rfl
                     go_simp; refine hK' _ ?_; clear hK' K'))
                generalize hwd : ({ wz with drawn := wz.drawn + 1 } : World) = wd
                have Ywd : Hid (Below wz.heap.size wz wd) := by rw [← hwd]; exact (Below.refl _ _).drew
                clear hwd
                have HSd := Lib.hid (HS.out.below Ywd.out)
                refine plan_two ?_ ?_
                · refine step_op rfl rfl (fun K' hK' => ?_)
                  go_simp
                  obtain ⟨wa, hn⟩ : ∃ x, x = wd.alloc (.cells #[.int .i64 (qAt L P 1 : Nat), .int .i64 (qAt L Q 0 : Nat)] 2) := ⟨_, rfl⟩
                  have U1 : Hid (OwnI wa wd.heap.size (.slice (some ⟨wd.heap.size, 0, none⟩) 2 2) (prow (qAt L P 1, qAt L Q 0))) := by rw [hn]; exact OwnI.newly rfl rfl rfl (Nat.le_refl _) (by simp [prow])
                  have Ywa : Hid (Below wd.heap.size wd wa) := by rw [hn]; exact below_al (Below.refl _ _)
                  have Zwa : Hid (wd.heap.size < wa.heap.size) := by rw [hn]; simp [Hid]
                  rw [← hn]
                  clear hn
                  refine hK' _ _ (HSd.out.sub.trans (Ywa.out.mono HSd.out.sub.size)) ?_; clear hK' K'
                  refine plan_one (step_op rfl rfl (fun K' hK' => ?_))
                  go_simp
                  obtain ⟨wb, hn⟩ : ∃ x, x = wa.alloc (.cells #[.int .i64 (qAt L P 3 : Nat), .int .i64 (qAt L Q 2 : Nat)] 2) := ⟨_, rfl⟩
                  have U2 : Hid (OwnI wb wd.heap.size (.slice (some ⟨wa.heap.size, 0, none⟩) 2 2) (prow (qAt L P 3, qAt L Q 2))) := by rw [hn]; exact OwnI.newly rfl rfl rfl Ywa.out.size (by simp [prow])
                  have Ywb : Hid (Below wd.heap.size wd wb) := by rw [hn]; exact below_al Ywa.out
                  have Xwb : Hid (Below wa.heap.size wa wb) := by rw [hn]; exact below_al (Below.refl _ _)
                  have Zwb : Hid (wa.heap.size < wb.heap.size) := by rw [hn]; simp [Hid]
                  rw [← hn]
                  clear hn
                  replace U1 := Lib.hid (U1.out.below Xwb.out)
                  refine hK' _ _ (HSd.out.sub.trans (Ywb.out.mono HSd.out.sub.size)) ?_; clear hK' K'
                  refine plan_one (step_op rfl rfl (fun K' hK' => ?_))
                  go_simp
                  obtain ⟨wc, hn⟩ : ∃ x, x = wb.alloc (.cells #[.slice (some ⟨wd.heap.size, 0, none⟩) 2 2, .slice (some ⟨wa.heap.size, 0, none⟩) 2 2] 35) := ⟨_, rfl⟩
                  have Xwc : Hid (Below wb.heap.size wb wc) := by rw [hn]; exact below_al (Below.refl _ _)
                  have Ywc : Hid (Below wd.heap.size wd wc) := by rw [hn]; exact below_al Ywb.out
                  have C1 : Hid (wc.cell? ⟨wb.heap.size, 0, none⟩ = some (.slice (some ⟨wd.heap.size, 0, none⟩) 2 2)) := by rw [hn]; exact cell_alloc_at _ _ _ _ _ rfl
                  have C2 : Hid (wc.cell? ⟨wb.heap.size, 0 + 1, none⟩ = some (.slice (some ⟨wa.heap.size, 0, none⟩) 2 2)) := by rw [hn]; exact cell_alloc_at _ _ _ _ _ rfl
                  rw [← hn]
                  clear hn
                  replace U1 := Lib.hid (U1.out.below Xwc.out)
                  replace U2 := Lib.hid (U2.out.below Xwc.out)
                  refine hK' _ _ (HSd.out.sub.trans (Ywc.out.mono HSd.out.sub.size)) ?_; clear hK' K'
                  refine plan_one (step_op rfl rfl (fun K' hK' => ?_))
                  refine app_row2X (W0 := wd) (.tmp 111) (.tmp 126) rfl w.heap.size _ (prows list) (.slice (some ⟨wd.heap.size, 0, none⟩) 2 2) (.slice (some ⟨wa.heap.size, 0, none⟩) 2 2) (prow (qAt L P 1, qAt L Q 0)) (prow (qAt L P 3, qAt L Q 2)) rfl _ HSd.out.lt HSd.out.own Ywc.out U1.out U2.out (Apart.blk (by have := Zwa.out; omega)) wb.heap.size 0 2 rfl C1.out C2.out (by rw [prows_length]; have := HLN.out; omega) HSd.out.sub.size (fun v' w' h1 h2 h3 => ?_)
                  rw [← prows_app2] at h1
                  have HP := Lib.hid (HSd.out.app Ywc.out h2 h1)
                  clear h1 h2 h3
                  refine hK' _ _ (HP.out.sub) ?_; clear hK' K'
                  repeat (first
                    | (refine plan_skip rfl rfl (fun K' hK' => ?_); go_simp; refine hK' _ ?_; clear hK' K')
                    | (refine plan_do (v := ?_) rfl rfl (fun w1 hb => ?_) (fun K' hK' => ?_); rotate_left
                       · go_simp
                         rfl
                       go_simp; refine hK' _ ?_; clear hK' K'))
                  refine plan_done ⟨?_, ?_, ?_, ?_, ?_, ?_, ?_, ?_, ?_, ?_, ?_, ?_, ?_, ?_, ?_, ?_, ?_, ?_, ?_, ?_⟩
                  rotate_left 18
                  · go_simp; (first | rfl | (and_intros <;> rfl))
                  · exact ⟨rfl, HP⟩
                · refine step_op rfl rfl (fun K' hK' => ?_)
                  go_simp
                  obtain ⟨wa, hn⟩ : ∃ x, x = wd.alloc (.cells #[.int .i64 (qAt L P 3 : Nat), .int .i64 (qAt L Q 2 : Nat)] 2) := ⟨_, rfl⟩
                  have U2 : Hid (OwnI wa wd.heap.size (.slice (some ⟨wd.heap.size, 0, none⟩) 2 2) (prow (qAt L P 3, qAt L Q 2))) := by rw [hn]; exact OwnI.newly rfl rfl rfl (Nat.le_refl _) (by simp [prow])
                  have Ywa : Hid (Below wd.heap.size wd wa) := by rw [hn]; exact below_al (Below.refl _ _)
                  have Zwa : Hid (wd.heap.size < wa.heap.size) := by rw [hn]; simp [Hid]
                  rw [← hn]
                  clear hn
                  refine hK' _ _ (HSd.out.sub.trans (Ywa.out.mono HSd.out.sub.size)) ?_; clear hK' K'
                  refine plan_one (step_op rfl rfl (fun K' hK' => ?_))
                  go_simp
                  obtain ⟨wb, hn⟩ : ∃ x, x = wa.alloc (.cells #[.int .i64 (qAt L P 1 : Nat), .int .i64 (qAt L Q 0 : Nat)] 2) := ⟨_, rfl⟩
                  have U1 : Hid (OwnI wb wd.heap.size (.slice (some ⟨wa.heap.size, 0, none⟩) 2 2) (prow (qAt L P 1, qAt L Q 0))) := by rw [hn]; exact OwnI.newly rfl rfl rfl Ywa.out.size (by simp [prow])
                  have Ywb : Hid (Below wd.heap.size wd wb) := by rw [hn]; exact below_al Ywa.out
                  have Xwb : Hid (Below wa.heap.size wa wb) := by rw [hn]; exact below_al (Below.refl _ _)
                  have Zwb : Hid (wa.heap.size < wb.heap.size) := by rw [hn]; simp [Hid]
                  rw [← hn]
                  clear hn
                  replace U2 := Lib.hid (U2.out.below Xwb.out)
                  refine hK' _ _ (HSd.out.sub.trans (Ywb.out.mono HSd.out.sub.size)) ?_; clear hK' K'
                  refine plan_one (step_op rfl rfl (fun K' hK' => ?_))
                  go_simp
                  obtain ⟨wc, hn⟩ : ∃ x, x = wb.alloc (.cells #[.slice (some ⟨wa.heap.size, 0, none⟩) 2 2, .slice (some ⟨wd.heap.size, 0, none⟩) 2 2] 35) := ⟨_, rfl⟩
                  have Xwc : Hid (Below wb.heap.size wb wc) := by rw [hn]; exact below_al (Below.refl _ _)
                  have Ywc : Hid (Below wd.heap.size wd wc) := by rw [hn]; exact below_al Ywb.out
                  have C1 : Hid (wc.cell? ⟨wb.heap.size, 0, none⟩ = some (.slice (some ⟨wa.heap.size, 0, none⟩) 2 2)) := by rw [hn]; exact cell_alloc_at _ _ _ _ _ rfl
                  have C2 : Hid (wc.cell? ⟨wb.heap.size, 0 + 1, none⟩ = some (.slice (some ⟨wd.heap.size, 0, none⟩) 2 2)) := by rw [hn]; exact cell_alloc_at _ _ _ _ _ rfl
                  rw [← hn]
                  clear hn
                  replace U1 := Lib.hid (U1.out.below Xwc.out)
                  replace U2 := Lib.hid (U2.out.below Xwc.out)
                  refine hK' _ _ (HSd.out.sub.trans (Ywc.out.mono HSd.out.sub.size)) ?_; clear hK' K'
                  refine plan_one (step_op rfl rfl (fun K' hK' => ?_))
                  refine app_row2X (W0 := wd) (.tmp 111) (.tmp 126) rfl w.heap.size _ (prows list) (.slice (some ⟨wa.heap.size, 0, none⟩) 2 2) (.slice (some ⟨wd.heap.size, 0, none⟩) 2 2) (prow (qAt L P 1, qAt L Q 0)) (prow (qAt L P 3, qAt L Q 2)) rfl _ HSd.out.lt HSd.out.own Ywc.out U1.out U2.out (Apart.blk (by have := Zwa.out; omega)) wb.heap.size 0 2 rfl C1.out C2.out (by rw [prows_length]; have := HLN.out; omega) HSd.out.sub.size (fun v' w' h1 h2 h3 => ?_)
                  rw [← prows_app2] at h1
                  have HP := Lib.hid (HSd.out.app Ywc.out h2 h1)
                  clear h1 h2 h3
                  refine hK' _ _ (HP.out.sub) ?_; clear hK' K'
                  repeat (first
                    | (refine plan_skip rfl rfl (fun K' hK' => ?_); go_simp; refine hK' _ ?_; clear hK' K')
                    | (refine plan_do (v := ?_) rfl rfl (fun w1 hb => ?_) (fun K' hK' => ?_); rotate_left
                       · go_simp
                         rfl
                       go_simp; refine hK' _ ?_; clear hK' K'))
                  refine plan_done ⟨?_, ?_, ?_, ?_, ?_, ?_, ?_, ?_, ?_, ?_, ?_, ?_, ?_, ?_, ?_, ?_, ?_, ?_, ?_, ?_⟩
                  rotate_left 18
                  · go_simp; (first | rfl | (and_intros <;> rfl))
                  · exact ⟨rfl, HP⟩
              · rw [hmk] at y0
                have HI2 := Lib.hid (HIs.out (by rw [hg, hmk]))
                clear hg hmk HIs HIn
                have HS2 := Lib.hid (HS.out.below (W := wr.drewN nq) (below_drN (Below.refl _ _)))
                go_wp2_with fail
                go_roundw
                case rel => exact ⟨a + 1, mt, list, by go_num, by first | exact HS2 | (rw [hll]; exact HS2), HI2⟩
                case measure => simp [intOf]; have := HLN.out; omega
            · have he : ll ≤ a := by omega
              have hD := HI.out.done (by omega) (by rw [HML.out]; exact Nat.le_refl _)
              have HV2 : Hid (prV L met = prTo L.length mt M) := by unfold prV; rw [← hD, ← HM.out]; rfl
              have hml := HI.out.ml
              rw [← HM.out] at hml
              have Hml := Lib.hid hml
              obtain ⟨w2, rfl⟩ : ∃ w2, w2 = wr := ⟨wr, rfl⟩
              have hbmW : bm < w2.heap.size := HS.out.blk.lt
              have HbmW := Lib.hid hbmW
              have HS9 := HS
              have HMp : Hid (0 < M → ¬ (L.length : Int) = 0) := fun h e => by
                have : L.length = 0 := by omega
                rw [HM.out, this] at h; simp at h
              have hz : decide (a < (prows list).length) = false := by rw [← hll]; exact decide_eq_false (by omega)
              have hz2 : decide (a < ll) = false := decide_eq_false (by omega)
              clear hrows hD hml hpl hbmW
              go_wp2_with fail
              try rw [hz]
              try rw [hz2]
              clear hz hz2
              go_loopw [20, 21] (fun v kv wi => ∃ k : Nat, k ≤ M ∧ kv = .int .i64 k ∧ Hid (OwnII wi w2.heap.size v (prows (prTo L.length mt k))) ∧ Hid (Below w2.heap.size w2 wi)) (fun _ kv _ => M - (intOf kv).toNat)
              case atStart =>
                refine ⟨0, by omega, rfl, ?_, ?_⟩
                · show OwnII _ _ _ _
                  exact OwnII.empty rfl (Nat.le_refl _)
                · show Below _ _ _
                  exact below_al (Below.refl _ _)
              case round =>
                obtain ⟨k, hk, rfl, HO, HW⟩ := hrel
                obtain ⟨A8, c8, rfl, -⟩ := HO.out.rows
                obtain ⟨lk, hlk⟩ : ∃ lk, lk = (prows (prTo L.length mt k)).length := ⟨_, rfl⟩
                have hkl : lk ≤ 256 := by rw [hlk, prows_length]; have := prTo_len L.length mt k; omega
                have Hkl := Lib.hid hkl
                rw [← hlk]
                by_cases hkM : k < M
                · have hkm : k < mt.length := by rw [Hml.out]; exact hkM
                  have HBk := Lib.hid (HS.out.blk.belowB HW.out)
                  have y0 := HBk.out.bool k hkm
                  have hbW : bm < w2.heap.size := HbmW.out
                  have hg : mt.getD k false = mt[k] := by simp [hkm]
                  have hst := prTo_succ L.length mt k
                  rw [hg] at hst
                  have hn0 : ¬ (L.length : Int) = 0 := HMp.out (by omega)
                  have eq1 : IntKind.i64.wrap ((k : Int).tdiv (L.length : Int)) = ((k / L.length : Nat) : Int) := by
                    rw [Int.tdiv_eq_ediv_of_nonneg (by omega)]
                    rw [show (k : Int) / (L.length : Int) = ((k / L.length : Nat) : Int) by simp]
                    have hq := Nat.div_le_self k L.length
                    generalize k / L.length = q at *
                    exact IntWalk.i64_in _ (by omega)
                  have eq2 : IntKind.i64.wrap ((k : Int).tmod (L.length : Int)) = ((k % L.length : Nat) : Int) := by
                    rw [Int.tmod_eq_emod_of_nonneg (by omega)]
                    rw [show (k : Int) % (L.length : Int) = ((k % L.length : Nat) : Int) by simp]
                    have hq := Nat.mod_le k L.length
                    generalize k % L.length = q at *
                    exact IntWalk.i64_in _ (by omega)
                  have hnL : ¬ L = [] := fun e => hn0 (by rw [e]; rfl)
                  have eq5 : (k : Int).tmod (L.length : Int) = ((k % L.length : Nat) : Int) := by rw [Int.tmod_eq_emod_of_nonneg (by omega)]; simp
                  have eq3 := eq1
                  have eq4 := eq2
                  rw [Int.tdiv_eq_ediv_of_nonneg (by omega)] at eq3
                  rw [Int.tmod_eq_emod_of_nonneg (by omega)] at eq4
                  obtain ⟨kd, hkd⟩ : ∃ kd, kd = k / L.length := ⟨_, rfl⟩
                  obtain ⟨kr, hkr⟩ : ∃ kr, kr = k % L.length := ⟨_, rfl⟩
                  rw [← hkd] at eq1 eq3 hst
                  rw [← hkr] at eq2 eq4 eq5 hst
                  clear hkd hkr hkl
                  cases hmk : mt[k]
                  · rw [hmk] at hst y0
                    have HE := Lib.hid hst
                    clear hst hg hmk
                    go_wp2_with fail
                    go_roundw
                    case rel => exact ⟨k + 1, by omega, by go_num, by rw [HE.out, hlk]; simpa using HO, HW⟩
                    case measure => simp [intOf]; omega
                  · rw [hmk] at hst y0
                    have HE := Lib.hid hst
                    clear hst hg hmk
                    go_wp2_with fail
                    refine wp_region_plan (.det 0 (.det 1 (.det 2 (.det 3 (.det 4 (.det 5 (.det 6 (.one 7 (.one 8 (.one 9 (.det 10 (.done)))))))))))) (fun w' => Below (w2).heap.size (w2) w') (fun a a' w' => ∃ x0 x1 x2 x3 x4 x5 x6 x7 x8 x9 x10, a' = (((((((((((a.put (some 140) x0).put (some 141) x1).put (some 142) x2).put (some 143) x3).put (some 144) x4).put (some 145) x5).put (some 146) x6).put (some 147) x7).put (some 148) x8).put (some 149) x9).put (some 20) x10) ∧ x10 = x9 ∧ Hid (OwnII w' w2.heap.size x9 (prows (prTo L.length mt (k + 1))))) (by kernel_rfl) (by kernel_rfl) (fun _ _ d _ _ h => by cases d <;> exact h) (HW.out.drew) ?_ ?_
                    rotate_left
                    · rintro a' wa hba ⟨x0, x1, x2, x3, x4, x5, x6, x7, x8, x9, x10, rfl, hP⟩
                      obtain ⟨rfl, HO2⟩ := hP
                      obtain ⟨A9, c9, rfl, -⟩ := HO2.out.rows
                      have HW2 := Lib.hid hba
                      clear hba y0
                      go_simp
                      go_wp2_with fail
                      go_roundw
                      case rel => exact ⟨k + 1, by omega, by go_num, HO2, HW2⟩
                      case measure => simp [intOf]; omega
                    repeat (first
                      | (refine plan_skip rfl rfl (fun K' hK' => ?_); go_simp; refine hK' _ ?_; clear hK' K')
                      | (refine plan_do (v := ?_) rfl rfl (fun w1 hb => ?_) (fun K' hK' => ?_); rotate_left
                         · go_simp
                           rfl
                         go_simp; refine hK' _ ?_; clear hK' K'))
                    generalize hwd : ({ wr with drawn := wr.drawn + 1 } : World) = wd
                    have Ywd : Hid (Below wr.heap.size wr wd) := by rw [← hwd]; exact (Below.refl _ _).drew
                    clear hwd
                    have HOd := Lib.hid (HO.out.below Ywd.out)
                    have HWd := Lib.hid (HW.out.trans (Ywd.out.mono HW.out.size))
                    refine plan_one (step_op rfl rfl (fun K' hK' => ?_))
                    go_simp
                    obtain ⟨wa, hn⟩ : ∃ x, x = wd.alloc (.cells #[.int .i64 (kd : Nat), .int .i64 (kr : Nat)] 2) := ⟨_, rfl⟩
                    have U1 : Hid (OwnI wa wd.heap.size (.slice (some ⟨wd.heap.size, 0, none⟩) 2 2) (prow (kd, kr))) := by rw [hn]; exact OwnI.newly rfl rfl rfl (Nat.le_refl _) (by simp [prow])
                    have Ywa : Hid (Below wd.heap.size wd wa) := by rw [hn]; exact below_al (Below.refl _ _)
                    rw [← hn]
                    clear hn
                    refine hK' _ _ (HWd.out.trans (Ywa.out.mono HWd.out.size)) ?_; clear hK' K'
                    refine plan_one (step_op rfl rfl (fun K' hK' => ?_))
                    go_simp
                    obtain ⟨wb, hn⟩ : ∃ x, x = wa.alloc (.cells #[.slice (some ⟨wd.heap.size, 0, none⟩) 2 2] 35) := ⟨_, rfl⟩
                    have Ywb : Hid (Below wd.heap.size wd wb) := by rw [hn]; exact below_al Ywa.out
                    have Xwb : Hid (Below wa.heap.size wa wb) := by rw [hn]; exact below_al (Below.refl _ _)
                    have C1 : Hid (wb.cell? ⟨wa.heap.size, 0, none⟩ = some (.slice (some ⟨wd.heap.size, 0, none⟩) 2 2)) := by rw [hn]; exact cell_alloc_at _ _ _ _ _ rfl
                    rw [← hn]
                    clear hn
                    replace U1 := Lib.hid (U1.out.below Xwb.out)
                    refine hK' _ _ (HWd.out.trans (Ywb.out.mono HWd.out.size)) ?_; clear hK' K'
                    refine plan_one (step_op rfl rfl (fun K' hK' => ?_))
                    subst hlk
                    refine app_row (W0 := wd) (.tmp 140) (.tmp 148) rfl w2.heap.size (.slice A8 (prows (prTo L.length mt k)).length c8) (prows (prTo L.length mt k)) (.slice (some ⟨wd.heap.size, 0, none⟩) 2 2) (prow (kd, kr)) rfl HOd.out Ywb.out U1.out wa.heap.size 0 rfl C1.out (by have := Hkl.out; omega) HWd.out.size (fun v' w' h1 h2 h3 => ?_)
                    rw [← prows_app] at h1
                    have HP : Hid (OwnII w' w2.heap.size v' (prows (prTo L.length mt (k + 1)))) := by show OwnII _ _ _ _; rw [HE.out]; simpa using h1
                    have HB9 := Lib.hid (Below.grown (HWd.out.trans (Ywb.out.mono HWd.out.size)) h2 (Nat.le_trans HWd.out.size Ywb.out.size) h3)
                    clear h1 h2 h3
                    refine hK' _ _ (HB9.out) ?_; clear hK' K'
                    repeat (first
                      | (refine plan_skip rfl rfl (fun K' hK' => ?_); go_simp; refine hK' _ ?_; clear hK' K')
                      | (refine plan_do (v := ?_) rfl rfl (fun w1 hb => ?_) (fun K' hK' => ?_); rotate_left
                         · go_simp
                           rfl
                         go_simp; refine hK' _ ?_; clear hK' K'))
                    refine plan_done ⟨?_, ?_, ?_, ?_, ?_, ?_, ?_, ?_, ?_, ?_, ?_, ?_, ?_⟩
                    rotate_left 11
                    · go_simp; (first | rfl | (and_intros <;> rfl))
                    · exact ⟨rfl, HP⟩
                · obtain rfl : k = M := by omega
                  rw [hlk]
                  clear hkl
                  go_wp2_with fail
                  go_ret2
                  exact ⟨_, rfl, by rw [HF1.out, HV2.out]; exact HO.out.weaken HS9.out.sub.size, HS9.out.sub.trans (HW.out.mono HS9.out.sub.size)⟩
    repeat (first
      | (refine plan_skip rfl rfl (fun K' hK' => ?_); go_simp; refine hK' _ ?_; clear hK' K')
      | (refine plan_do (v := ?_) rfl rfl (fun w1 hb => ?_) (fun K' hK' => ?_); rotate_left
         · go_simp
           rfl
         go_simp; refine hK' _ ?_; clear hK' K'))
    generalize hwd : ({ w1 with drawn := w1.drawn + 1 } : World) = wd
    have Hwd : Hid (Below w.heap.size w wd) := by rw [← hwd]; exact Hw1.out.drew
    clear hwd
    refine plan_three ?_ ?_ ?_
    · refine step_op rfl rfl (fun K' hK' => ?_)
      go_simp
      obtain ⟨wa, hn⟩ : ∃ x, x = wd.alloc (.cells (madeCells #[Value.bool false] M) 4) := ⟨_, rfl⟩
      have HA : Hid (Blk wa wd.heap.size (bools (List.replicate M false)) 4) := by rw [hn, ← made_bools0]; exact Blk.newA wd _ _
      have Ywa : Hid (Below wd.heap.size wd wa) := by rw [hn]; exact below_al (Below.refl _ _)
      have Zwa : Hid (wd.heap.size < wa.heap.size) := by rw [hn]; simp [Hid]
      rw [← hn]
      clear hn
      have Hwa := Lib.hid (Hwd.out.trans (Ywa.out.mono Hwd.out.size))
      refine hK' _ _ (Hwa.out) ?_; clear hK' K'
      refine plan_two ?_ ?_
      · refine step_op rfl rfl (fun K' hK' => ?_)
        go_simp
        refine (HT.out _ Hwa.out).mono ?_
        rintro e wb ⟨bt, rfl, hbt, hBt, hml, hP⟩
        have Ywb := Lib.hid hP
        have HC := Lib.hid hBt
        have HBT := Lib.hid hbt
        have HML := Lib.hid hml
        have Zwb : Hid (wa.heap.size < wb.heap.size) := Nat.lt_of_le_of_lt hbt hBt.lt
        clear hP hBt hbt hml
        have Hwb := Lib.hid (Hwa.out.trans (Ywb.out.mono Hwa.out.size))
        refine hK' _ _ (Hwb.out) ?_; clear hK' K'
        repeat (first
          | (refine plan_skip rfl rfl (fun K' hK' => ?_); go_simp; refine hK' _ ?_; clear hK' K')
          | (refine plan_do (v := ?_) rfl rfl (fun w1 hb => ?_) (fun K' hK' => ?_); rotate_left
             · go_simp
               rfl
             go_simp; refine hK' _ ?_; clear hK' K'))
        refine plan_one (step_op rfl rfl (fun K' hK' => ?_))
        go_simp
        obtain ⟨wc, hn⟩ : ∃ x, x = wb.alloc (.cells #[] 35) := ⟨_, rfl⟩
        have HO : Hid (OwnIX wc w.heap.size (fun k => k = wd.heap.size ∨ k = bt) (.slice (some ⟨wb.heap.size, 0, none⟩) 0 0) []) := by rw [hn]; exact OwnIX.empty rfl Hwb.out.size (fun h => by rcases h with h | h; (have h : wb.heap.size = wd.heap.size := h; have := Zwa.out; have := Ywa.out.size; have := Zwb.out; have := Ywb.out.size; omega); (have h : wb.heap.size = bt := h; have := HC.out.lt; have := Zwa.out; have := Ywa.out.size; have := Zwb.out; have := Ywb.out.size; omega))
        have Ywc : Hid (Below wb.heap.size wb wc) := by rw [hn]; exact below_al (Below.refl _ _)
        have Zwc : Hid (wb.heap.size < wc.heap.size) := by rw [hn]; simp [Hid]
        rw [← hn]
        clear hn
        have Hwc := Lib.hid (Hwb.out.trans (Ywc.out.mono Hwb.out.size))
        refine hK' _ _ (Hwc.out) ?_; clear hK' K'
        repeat (first
          | (refine plan_skip rfl rfl (fun K' hK' => ?_); go_simp; refine hK' _ ?_; clear hK' K')
          | (refine plan_do (v := ?_) rfl rfl (fun w1 hb => ?_) (fun K' hK' => ?_); rotate_left
             · go_simp
               rfl
             go_simp; refine hK' _ ?_; clear hK' K'))
        have HF : Hid (PSt w wc wd.heap.size bt (.slice (some ⟨wb.heap.size, 0, none⟩) 0 0) (List.replicate M false) met []) := ⟨HO.out, ((HA.out).belowB Ywb.out).belowB Ywc.out, (HC.out).belowB Ywc.out, Hwc.out, Hwd.out.size, by have := HBT.out; have := Hwa.out.size; omega, by have := HBT.out; have := HC.out.lt; have := HA.out.lt; have := Zwa.out; have := Zwb.out; have := Zwc.out; omega⟩
        refine plan_done ⟨?_, ?_, ?_, ?_, ?_, ?_, ?_, ?_, ?_, ?_, ?_, ?_, ?_⟩
        rotate_left 11
        · go_simp; (first | rfl | (and_intros <;> rfl))
        · exact ⟨_, bt, rfl, rfl, rfl, rfl, rfl, HF, HML⟩
      · refine step_op rfl rfl (fun K' hK' => ?_)
        go_simp
        obtain ⟨wb, hn⟩ : ∃ x, x = wa.alloc (.cells #[] 35) := ⟨_, rfl⟩
        have HO : Hid (OwnIX wb w.heap.size (fun k => k = wd.heap.size) (.slice (some ⟨wa.heap.size, 0, none⟩) 0 0) []) := by rw [hn]; exact OwnIX.empty rfl Hwa.out.size (fun h => by have h : wa.heap.size = wd.heap.size := h; have := Zwa.out; have := Ywa.out.size; omega)
        have Ywb : Hid (Below wa.heap.size wa wb) := by rw [hn]; exact below_al (Below.refl _ _)
        have Zwb : Hid (wa.heap.size < wb.heap.size) := by rw [hn]; simp [Hid]
        rw [← hn]
        clear hn
        have Hwb := Lib.hid (Hwa.out.trans (Ywb.out.mono Hwa.out.size))
        refine hK' _ _ (Hwb.out) ?_; clear hK' K'
        refine plan_one (step_op rfl rfl (fun K' hK' => ?_))
        go_simp
        refine (HT.out _ Hwb.out).mono ?_
        rintro e wc ⟨bt, rfl, hbt, hBt, hml, hP⟩
        have Ywc := Lib.hid hP
        have HC := Lib.hid hBt
        have HBT := Lib.hid hbt
        have HML := Lib.hid hml
        have Zwc : Hid (wb.heap.size < wc.heap.size) := Nat.lt_of_le_of_lt hbt hBt.lt
        clear hP hBt hbt hml
        have Hwc := Lib.hid (Hwb.out.trans (Ywc.out.mono Hwb.out.size))
        refine hK' _ _ (Hwc.out) ?_; clear hK' K'
        repeat (first
          | (refine plan_skip rfl rfl (fun K' hK' => ?_); go_simp; refine hK' _ ?_; clear hK' K')
          | (refine plan_do (v := ?_) rfl rfl (fun w1 hb => ?_) (fun K' hK' => ?_); rotate_left
             · go_simp
               rfl
             go_simp; refine hK' _ ?_; clear hK' K'))
        have HF : Hid (PSt w wc wd.heap.size bt (.slice (some ⟨wa.heap.size, 0, none⟩) 0 0) (List.replicate M false) met []) := ⟨((HO.out).less (Y := fun k => k = wd.heap.size ∨ k = bt) (fun k hk e => by rcases e with e | e; exact e; (exfalso; have e : k = bt := e; have := HBT.out; omega))).below Ywc.out, ((HA.out).belowB Ywb.out).belowB Ywc.out, HC.out, Hwc.out, Hwd.out.size, by have := HBT.out; have := Hwb.out.size; omega, by have := HBT.out; have := HC.out.lt; have := HA.out.lt; have := Zwa.out; have := Zwb.out; have := Zwc.out; omega⟩
        refine plan_done ⟨?_, ?_, ?_, ?_, ?_, ?_, ?_, ?_, ?_, ?_, ?_, ?_, ?_⟩
        rotate_left 11
        · go_simp; (first | rfl | (and_intros <;> rfl))
        · exact ⟨_, bt, rfl, rfl, rfl, rfl, rfl, HF, HML⟩
    · refine step_op rfl rfl (fun K' hK' => ?_)
      go_simp
      refine (HT.out _ Hwd.out).mono ?_
      rintro e wa ⟨bt, rfl, hbt, hBt, hml, hP⟩
      have Ywa := Lib.hid hP
      have HC := Lib.hid hBt
      have HBT := Lib.hid hbt
      have HML := Lib.hid hml
      have Zwa : Hid (wd.heap.size < wa.heap.size) := Nat.lt_of_le_of_lt hbt hBt.lt
      clear hP hBt hbt hml
      have Hwa := Lib.hid (Hwd.out.trans (Ywa.out.mono Hwd.out.size))
      refine hK' _ _ (Hwa.out) ?_; clear hK' K'
      refine plan_two ?_ ?_
      · refine step_op rfl rfl (fun K' hK' => ?_)
        go_simp
        obtain ⟨wb, hn⟩ : ∃ x, x = wa.alloc (.cells (madeCells #[Value.bool false] M) 4) := ⟨_, rfl⟩
        have HA : Hid (Blk wb wa.heap.size (bools (List.replicate M false)) 4) := by rw [hn, ← made_bools0]; exact Blk.newA wa _ _
        have Ywb : Hid (Below wa.heap.size wa wb) := by rw [hn]; exact below_al (Below.refl _ _)
        have Zwb : Hid (wa.heap.size < wb.heap.size) := by rw [hn]; simp [Hid]
        rw [← hn]
        clear hn
        have Hwb := Lib.hid (Hwa.out.trans (Ywb.out.mono Hwa.out.size))
        refine hK' _ _ (Hwb.out) ?_; clear hK' K'
        repeat (first
          | (refine plan_skip rfl rfl (fun K' hK' => ?_); go_simp; refine hK' _ ?_; clear hK' K')
          | (refine plan_do (v := ?_) rfl rfl (fun w1 hb => ?_) (fun K' hK' => ?_); rotate_left
             · go_simp
               rfl
             go_simp; refine hK' _ ?_; clear hK' K'))
        refine plan_one (step_op rfl rfl (fun K' hK' => ?_))
        go_simp
        obtain ⟨wc, hn⟩ : ∃ x, x = wb.alloc (.cells #[] 35) := ⟨_, rfl⟩
        have HO : Hid (OwnIX wc w.heap.size (fun k => k = wa.heap.size ∨ k = bt) (.slice (some ⟨wb.heap.size, 0, none⟩) 0 0) []) := by rw [hn]; exact OwnIX.empty rfl Hwb.out.size (fun h => by rcases h with h | h; (have h : wb.heap.size = wa.heap.size := h; have := Zwa.out; have := Ywa.out.size; have := Zwb.out; have := Ywb.out.size; omega); (have h : wb.heap.size = bt := h; have := HC.out.lt; have := Zwa.out; have := Ywa.out.size; have := Zwb.out; have := Ywb.out.size; omega))
        have Ywc : Hid (Below wb.heap.size wb wc) := by rw [hn]; exact below_al (Below.refl _ _)
        have Zwc : Hid (wb.heap.size < wc.heap.size) := by rw [hn]; simp [Hid]
        rw [← hn]
        clear hn
        have Hwc := Lib.hid (Hwb.out.trans (Ywc.out.mono Hwb.out.size))
        refine hK' _ _ (Hwc.out) ?_; clear hK' K'
        repeat (first
          | (refine plan_skip rfl rfl (fun K' hK' => ?_); go_simp; refine hK' _ ?_; clear hK' K')
          | (refine plan_do (v := ?_) rfl rfl (fun w1 hb => ?_) (fun K' hK' => ?_); rotate_left
             · go_simp
               rfl
             go_simp; refine hK' _ ?_; clear hK' K'))
        have HF : Hid (PSt w wc wa.heap.size bt (.slice (some ⟨wb.heap.size, 0, none⟩) 0 0) (List.replicate M false) met []) := ⟨HO.out, (HA.out).belowB Ywc.out, ((HC.out).belowB Ywb.out).belowB Ywc.out, Hwc.out, Hwa.out.size, by have := HBT.out; have := Hwd.out.size; omega, by have := HBT.out; have := HC.out.lt; have := HA.out.lt; have := Zwa.out; have := Zwb.out; have := Zwc.out; omega⟩
        refine plan_done ⟨?_, ?_, ?_, ?_, ?_, ?_, ?_, ?_, ?_, ?_, ?_, ?_, ?_⟩
        rotate_left 11
        · go_simp; (first | rfl | (and_intros <;> rfl))
        · exact ⟨_, bt, rfl, rfl, rfl, rfl, rfl, HF, HML⟩
      · refine step_op rfl rfl (fun K' hK' => ?_)
        go_simp
        obtain ⟨wb, hn⟩ : ∃ x, x = wa.alloc (.cells #[] 35) := ⟨_, rfl⟩
        have HO : Hid (OwnIX wb w.heap.size (fun k => k = bt) (.slice (some ⟨wa.heap.size, 0, none⟩) 0 0) []) := by rw [hn]; exact OwnIX.empty rfl Hwa.out.size (fun h => by have h : wa.heap.size = bt := h; have := HC.out.lt; have := Zwa.out; have := Ywa.out.size; omega)
        have Ywb : Hid (Below wa.heap.size wa wb) := by rw [hn]; exact below_al (Below.refl _ _)
        have Zwb : Hid (wa.heap.size < wb.heap.size) := by rw [hn]; simp [Hid]
        rw [← hn]
        clear hn
        have Hwb := Lib.hid (Hwa.out.trans (Ywb.out.mono Hwa.out.size))
        refine hK' _ _ (Hwb.out) ?_; clear hK' K'
        refine plan_one (step_op rfl rfl (fun K' hK' => ?_))
        go_simp
        obtain ⟨wc, hn⟩ : ∃ x, x = wb.alloc (.cells (madeCells #[Value.bool false] M) 4) := ⟨_, rfl⟩
        have HA : Hid (Blk wc wb.heap.size (bools (List.replicate M false)) 4) := by rw [hn, ← made_bools0]; exact Blk.newA wb _ _
        have Ywc : Hid (Below wb.heap.size wb wc) := by rw [hn]; exact below_al (Below.refl _ _)
        have Zwc : Hid (wb.heap.size < wc.heap.size) := by rw [hn]; simp [Hid]
        rw [← hn]
        clear hn
        have Hwc := Lib.hid (Hwb.out.trans (Ywc.out.mono Hwb.out.size))
        refine hK' _ _ (Hwc.out) ?_; clear hK' K'
        repeat (first
          | (refine plan_skip rfl rfl (fun K' hK' => ?_); go_simp; refine hK' _ ?_; clear hK' K')
          | (refine plan_do (v := ?_) rfl rfl (fun w1 hb => ?_) (fun K' hK' => ?_); rotate_left
             · go_simp
               rfl
             go_simp; refine hK' _ ?_; clear hK' K'))
        have HF : Hid (PSt w wc wb.heap.size bt (.slice (some ⟨wa.heap.size, 0, none⟩) 0 0) (List.replicate M false) met []) := ⟨((HO.out).less (Y := fun k => k = wb.heap.size ∨ k = bt) (fun k hk e => by rcases e with e | e; (exfalso; have e : k = wb.heap.size := e; omega); exact e)).below Ywc.out, HA.out, ((HC.out).belowB Ywb.out).belowB Ywc.out, Hwc.out, Hwb.out.size, by have := HBT.out; have := Hwd.out.size; omega, by have := HBT.out; have := HC.out.lt; have := HA.out.lt; have := Zwa.out; have := Zwb.out; have := Zwc.out; omega⟩
        refine plan_done ⟨?_, ?_, ?_, ?_, ?_, ?_, ?_, ?_, ?_, ?_, ?_, ?_, ?_⟩
        rotate_left 11
        · go_simp; (first | rfl | (and_intros <;> rfl))
        · exact ⟨_, bt, rfl, rfl, rfl, rfl, rfl, HF, HML⟩
    · refine step_op rfl rfl (fun K' hK' => ?_)
      go_simp
      obtain ⟨wa, hn⟩ : ∃ x, x = wd.alloc (.cells #[] 35) := ⟨_, rfl⟩
      have HO : Hid (OwnIX wa w.heap.size (fun k => False) (.slice (some ⟨wd.heap.size, 0, none⟩) 0 0) []) := by rw [hn]; exact OwnIX.empty rfl Hwd.out.size (fun h => h)
      have Ywa : Hid (Below wd.heap.size wd wa) := by rw [hn]; exact below_al (Below.refl _ _)
      have Zwa : Hid (wd.heap.size < wa.heap.size) := by rw [hn]; simp [Hid]
      rw [← hn]
      clear hn
      have Hwa := Lib.hid (Hwd.out.trans (Ywa.out.mono Hwd.out.size))
      refine hK' _ _ (Hwa.out) ?_; clear hK' K'
      refine plan_two ?_ ?_
      · refine step_op rfl rfl (fun K' hK' => ?_)
        go_simp
        obtain ⟨wb, hn⟩ : ∃ x, x = wa.alloc (.cells (madeCells #[Value.bool false] M) 4) := ⟨_, rfl⟩
        have HA : Hid (Blk wb wa.heap.size (bools (List.replicate M false)) 4) := by rw [hn, ← made_bools0]; exact Blk.newA wa _ _
        have Ywb : Hid (Below wa.heap.size wa wb) := by rw [hn]; exact below_al (Below.refl _ _)
        have Zwb : Hid (wa.heap.size < wb.heap.size) := by rw [hn]; simp [Hid]
        rw [← hn]
        clear hn
        have Hwb := Lib.hid (Hwa.out.trans (Ywb.out.mono Hwa.out.size))
        refine hK' _ _ (Hwb.out) ?_; clear hK' K'
        refine plan_one (step_op rfl rfl (fun K' hK' => ?_))
        go_simp
        refine (HT.out _ Hwb.out).mono ?_
        rintro e wc ⟨bt, rfl, hbt, hBt, hml, hP⟩
        have Ywc := Lib.hid hP
        have HC := Lib.hid hBt
        have HBT := Lib.hid hbt
        have HML := Lib.hid hml
        have Zwc : Hid (wb.heap.size < wc.heap.size) := Nat.lt_of_le_of_lt hbt hBt.lt
        clear hP hBt hbt hml
        have Hwc := Lib.hid (Hwb.out.trans (Ywc.out.mono Hwb.out.size))
        refine hK' _ _ (Hwc.out) ?_; clear hK' K'
        repeat (first
          | (refine plan_skip rfl rfl (fun K' hK' => ?_); go_simp; refine hK' _ ?_; clear hK' K')
          | (refine plan_do (v := ?_) rfl rfl (fun w1 hb => ?_) (fun K' hK' => ?_); rotate_left
             · go_simp
               rfl
             go_simp; refine hK' _ ?_; clear hK' K'))
        have HF : Hid (PSt w wc wa.heap.size bt (.slice (some ⟨wd.heap.size, 0, none⟩) 0 0) (List.replicate M false) met []) := ⟨((((HO.out).less (Y := fun k => k = wa.heap.size) (fun k hk e => by have e : k = wa.heap.size := e; omega)).below Ywb.out).less (Y := fun k => k = wa.heap.size ∨ k = bt) (fun k hk e => by rcases e with e | e; exact e; (exfalso; have e : k = bt := e; have := HBT.out; omega))).below Ywc.out, (HA.out).belowB Ywc.out, HC.out, Hwc.out, Hwa.out.size, by have := HBT.out; have := Hwb.out.size; omega, by have := HBT.out; have := HC.out.lt; have := HA.out.lt; have := Zwa.out; have := Zwb.out; have := Zwc.out; omega⟩
        refine plan_done ⟨?_, ?_, ?_, ?_, ?_, ?_, ?_, ?_, ?_, ?_, ?_, ?_, ?_⟩
        rotate_left 11
        · go_simp; (first | rfl | (and_intros <;> rfl))
        · exact ⟨_, bt, rfl, rfl, rfl, rfl, rfl, HF, HML⟩
      · refine step_op rfl rfl (fun K' hK' => ?_)
        go_simp
        refine (HT.out _ Hwa.out).mono ?_
        rintro e wb ⟨bt, rfl, hbt, hBt, hml, hP⟩
        have Ywb := Lib.hid hP
        have HC := Lib.hid hBt
        have HBT := Lib.hid hbt
        have HML := Lib.hid hml
        have Zwb : Hid (wa.heap.size < wb.heap.size) := Nat.lt_of_le_of_lt hbt hBt.lt
        clear hP hBt hbt hml
        have Hwb := Lib.hid (Hwa.out.trans (Ywb.out.mono Hwa.out.size))
        refine hK' _ _ (Hwb.out) ?_; clear hK' K'
        refine plan_one (step_op rfl rfl (fun K' hK' => ?_))
        go_simp
        obtain ⟨wc, hn⟩ : ∃ x, x = wb.alloc (.cells (madeCells #[Value.bool false] M) 4) := ⟨_, rfl⟩
        have HA : Hid (Blk wc wb.heap.size (bools (List.replicate M false)) 4) := by rw [hn, ← made_bools0]; exact Blk.newA wb _ _
        have Ywc : Hid (Below wb.heap.size wb wc) := by rw [hn]; exact below_al (Below.refl _ _)
        have Zwc : Hid (wb.heap.size < wc.heap.size) := by rw [hn]; simp [Hid]
        rw [← hn]
        clear hn
        have Hwc := Lib.hid (Hwb.out.trans (Ywc.out.mono Hwb.out.size))
        refine hK' _ _ (Hwc.out) ?_; clear hK' K'
        repeat (first
          | (refine plan_skip rfl rfl (fun K' hK' => ?_); go_simp; refine hK' _ ?_; clear hK' K')
          | (refine plan_do (v := ?_) rfl rfl (fun w1 hb => ?_) (fun K' hK' => ?_); rotate_left
             · go_simp
               rfl
             go_simp; refine hK' _ ?_; clear hK' K'))
        have HF : Hid (PSt w wc wb.heap.size bt (.slice (some ⟨wd.heap.size, 0, none⟩) 0 0) (List.replicate M false) met []) := ⟨((((HO.out).less (Y := fun k => k = bt) (fun k hk e => by have e : k = bt := e; have := HBT.out; omega)).below Ywb.out).less (Y := fun k => k = wb.heap.size ∨ k = bt) (fun k hk e => by rcases e with e | e; (exfalso; have e : k = wb.heap.size := e; omega); exact e)).below Ywc.out, HA.out, (HC.out).belowB Ywc.out, Hwc.out, Hwb.out.size, by have := HBT.out; have := Hwa.out.size; omega, by have := HBT.out; have := HC.out.lt; have := HA.out.lt; have := Zwa.out; have := Zwb.out; have := Zwc.out; omega⟩
        refine plan_done ⟨?_, ?_, ?_, ?_, ?_, ?_, ?_, ?_, ?_, ?_, ?_, ?_, ?_⟩
        rotate_left 11
        · go_simp; (first | rfl | (and_intros <;> rfl))
        · exact ⟨_, bt, rfl, rfl, rfl, rfl, rfl, HF, HML⟩
  · have HF1 : Hid (pgV c ts L i = []) := by rw [Hid, HV1.out, HV.out, if_neg h0]
    rw [HV.out]
    generalize codeB (isSetB c ts) (stepB ts.length L i 0 0) = d at *
    have hne : (d != 0) = true := by simpa using h0
    clear h0
    go_enter Tryz.func33, Tryz.ntmps33
    go_wp2_with fail
    refine (HC.out _ (by (repeat (first | (with_reducible exact Below.refl _ _) | (with_reducible assumption) | (with_reducible refine below_al ?_) | (with_reducible refine below_dr ?_) | (with_reducible refine below_drN ?_) | (with_reducible refine below_set ?_ (by first | exact Nat.le_refl _ | (dsimp only; omega) | omega)) | (with_reducible refine below_tr (by with_reducible assumption) ?_))))).mono ?_
    rintro e w1 ⟨rfl, hb1⟩
    have Hw1 : Hid (Below w.heap.size w w1) := by (show Below _ _ _); (repeat (first | (with_reducible exact Below.refl _ _) | (with_reducible assumption) | (with_reducible refine below_al ?_) | (with_reducible refine below_dr ?_) | (with_reducible refine below_drN ?_) | (with_reducible refine below_set ?_ (by first | exact Nat.le_refl _ | (dsimp only; omega) | omega)) | (with_reducible refine below_tr (by with_reducible assumption) ?_)))
    clear hb1
    go_wp2
    go_ret2
    exact ⟨_, rfl, by rw [HF1.out]; exact OwnII.nil _ _, Hw1.out⟩

end Go.Proofs.YtkgnejhflnekaaaGreat
