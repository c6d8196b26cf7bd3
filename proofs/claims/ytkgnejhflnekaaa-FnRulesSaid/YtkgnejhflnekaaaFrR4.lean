/- Contracts and lemmas for the statements of this seat, written for this claim; each theorem states its own conditions. -/
import Derived.Deep.Cut
import Derived.Deep.CutBlock
import Derived.Deep.DeepCutAuto
import Derived.Test.YtkgnejhflnekaaaFrY9
import Derived.Test.YtkgnejhflnekaaaFrR1
set_option linter.unusedVariables false
set_option linter.unusedSimpArgs false
namespace Go.Proofs.Ytkgnejhflnekaaa
open Go.RowKit
attribute [local go_sem] addUpon_value addUpon_skip addUpon_enter
theorem OwnIX.appX {w w1 : World} {B N0 : Nat} {v : Value} {L : List (List Int)} (h : OwnIX w B (fun k => N0 ≤ k) v L) {r : Option Nat} (hg : w.grownBy w1 r) (hr : ∀ k, r = some k → N0 ≤ k) : OwnIX w1 B (fun k => N0 ≤ k) v L :=
  h.same fun k _ hk hx => hg.block k hk (fun e => hx (hr k e.symm))
/-- where l01DrawRows stands -/
structure DR (w wr : World) (g : Nat) (code : List Int) (c : Int) (n : Nat) (A : Option Addr) (cx : Nat) : Prop where
  box : Blk wr w.heap.size [.int .i64 c, .slice A n cx] 26
  src : Src wr g code
  sub : w.grownBy wr (some g)
  hg : g < w.heap.size
  sz : w.heap.size + 1 ≤ wr.heap.size
theorem DR.app {w wr W : World} {g : Nat} {code : List Int} {c : Int} {n : Nat} {A : Option Addr} {cx : Nat} (h : DR w wr g code c n A cx) {r : Option Nat} (hG : wr.grownBy W r) (hr : ∀ k, r = some k → w.heap.size + 1 ≤ k) : DR w W g code c n A cx :=
  ⟨h.box.kept1 hG (fun e => by have := hr _ (by first | exact e | exact e.symm); omega), h.src.app hG (fun k hk => by have := hr k hk; have := h.hg; omega), grown_app h.sub hG (fun k hk => by have := hr k hk; omega), h.hg, Nat.le_trans h.sz hG.size⟩
theorem DR.grow {w wr W : World} {g : Nat} {code : List Int} {c : Int} {n : Nat} {A : Option Addr} {cx : Nat} (h : DR w wr g code c n A cx) (hS : Src W g code) (hG : wr.grownBy W (some g)) : DR w W g code c n A cx :=
  ⟨h.box.kept1 hG (by have := h.hg; intro e; injection e with e; omega), hS, h.sub.trans hG, h.hg, Nat.le_trans h.sz hG.size⟩
theorem DR.below {w wr W : World} {g : Nat} {code : List Int} {c : Int} {n : Nat} {A : Option Addr} {cx : Nat} (h : DR w wr g code c n A cx) (hb : Below wr.heap.size wr W) : DR w W g code c n A cx :=
  h.grow (h.src.below hb) (grown_below hb _)
theorem DR.store {w wr : World} {g : Nat} {code : List Int} {c : Int} {n : Nat} {A : Option Addr} {cx : Nat} (h : DR w wr g code c n A cx) (b o : Nat) (v : Value) (hb : w.heap.size + 1 ≤ b) : DR w (wr.setCell ⟨b, o, none⟩ v) g code c n A cx :=
  ⟨h.box.other (a := ⟨b, o, none⟩) (by show w.heap.size ≠ b; omega) _, h.src.store (by have := h.hg; show g < b; omega), grown_store h.sub (by show w.heap.size ≤ b; omega), h.hg, by simpa [World.setCell] using h.sz⟩
def RowIn (n m : Nat) (row : List Int) : Prop := row.length = m ∧ ∀ x ∈ row, 0 ≤ x ∧ x < (n : Int)
theorem RowIn.at_ {n m : Nat} {row : List Int} (h : RowIn n m row) {j : Nat} (hj : j < row.length) : ∃ q : Nat, row[j] = (q : Int) ∧ q < n := by
  obtain ⟨a, b⟩ := h.2 _ (List.getElem_mem hj)
  exact ⟨row[j].toNat, by omega, by omega⟩
def DRows (w : World) (g : Nat) (code : List Int) (e : Ending) (w' : World) : Prop :=
  ∃ v L, e = .returned v ∧ OwnII w' (w.heap.size + 1) v L ∧ L.length ≤ 5 ∧ Short 4 L ∧ Src w' g code ∧ w.grownBy w' (some g)
set_option maxRecDepth 100000 in
set_option maxHeartbeats 4000000 in
theorem l01DrawRows_c (g : Nat) (code : List Int) (c : Int) (ts : List T4) (A : Option Addr) (cx N : Nat) (w : World) (h : Src w g code) (hO : OwnT w N (.slice A ts.length cx) ts) (hN : g < N) (h0 : 0 < ts.length) (hl : ts.length ≤ 101) :
    Calls Try.prog 49 #[.pointer (some ⟨g, 0, none⟩), .agg #[.int .i64 c, .slice A ts.length cx]] w (DRows w g code) := by
  have HL := Lib.hid h.lt
  have HT : Hid (∀ W, w.grownBy W (some g) → TileCells W A ts) := fun W hG => (hO.grew hG hN).cells
  have HQ0 : Hid (∀ wb, wb = w.alloc (.cells #[.int .i64 c, .slice A ts.length cx] 26) → DR w wb g code c ts.length A cx) := fun wb e => by rw [e]; exact ⟨Blk.newA _ _ _, h.alloc _, World.grownBy_alloc _ _ _, h.lt, by simp⟩
  clear h hO
  go_enter Try.func49, Try.ntmps49
  go_upto_region 1 with (fail)
  obtain ⟨wb, hwb⟩ : ∃ wb, wb = w.alloc (.cells #[.int .i64 c, .slice A ts.length cx] 26) := ⟨_, rfl⟩
  have HQ := Lib.hid (HQ0.out wb hwb)
  rw [← hwb]
  clear hwb HQ0
  go_wp2_with fail
  refine (l01Next_c g code _ _ HQ.out.src).mono ?_
  rintro e w1 ⟨r1, rfl, a, _, b, S, G⟩
  replace HQ := Lib.hid (HQ.out.grow S G)
  have b := b (by omega)
  obtain ⟨x1, rfl⟩ := Int.eq_ofNat_of_zero_le a
  obtain ⟨hh, hhe⟩ : ∃ hh : Nat, hh = 1 + x1 := ⟨_, rfl⟩
  have he1 : (1 : Int) + (x1 : Int) = (hh : Int) := by omega
  have hh1 : 1 ≤ hh := by omega
  have hh4 : hh ≤ 4 := by omega
  clear S G a hhe
  go_wp2_with fail
  refine (l01Next_c g code _ _ HQ.out.src).mono ?_
  rintro e w2 ⟨r2, rfl, a, _, b2, S, G⟩
  replace HQ := Lib.hid (HQ.out.grow S G)
  have b2 := b2 (by omega)
  obtain ⟨x2, rfl⟩ := Int.eq_ofNat_of_zero_le a
  obtain ⟨hw, hwe⟩ : ∃ hw : Nat, hw = 1 + x2 := ⟨_, rfl⟩
  have he2 : (1 : Int) + (x2 : Int) = (hw : Int) := by omega
  have hw1 : 1 ≤ hw := by omega
  have hw4 : hw ≤ 4 := by omega
  clear S G a hwe
  go_upto_region 2 with (fail)
  clear he1 he2 b b2
  have e1 := fun w1 (h : Blk w1 w.heap.size [.int .i64 c, .slice A ts.length cx] 26) => h.cell 1 (by simp)
  simp only [List.getElem_cons_zero, List.getElem_cons_succ] at e1
  refine wp_region_mix [(1, true), (2, true), (3, true), (0, false), (4, true), (5, true)] (fun w' => Blk w' w.heap.size [.int .i64 c, .slice A ts.length cx] 26) (by kernel_rfl) (by kernel_rfl) (fun _ _ d _ _ h => by cases d <;> exact h) (HQ.out.box.drew) ?_
  repeat (first
    | (refine mix_skip rfl rfl (fun K' hK' => ?_); go_simp; refine hK' _ ?_; clear hK' K')
    | (refine mix_do (v := ?_) rfl rfl (fun w1 hb => ?_) (fun K' hK' => ?_); rotate_left
       · go_simp
         rfl
       go_simp; refine hK' _ ?_; clear hK' K'))
  generalize hwd : ({ w2 with drawn := w2.drawn + 1 } : World) = wd
  have HQd : Hid (DR w wd g code c ts.length A cx) := by rw [← hwd]; exact HQ.out.below (Below.refl _ _).drew
  clear hwd HQ
  refine mix_call rfl rfl (fun K' hK' => ?_)
  go_simp
  refine hK' _ _ (HQd.out.box.alloc _) ?_; clear hK' K'
  repeat (first
    | (refine mix_skip rfl rfl (fun K' hK' => ?_); go_simp; refine hK' _ ?_; clear hK' K')
    | (refine mix_do (v := ?_) rfl rfl (fun w1 hb => ?_) (fun K' hK' => ?_); rotate_left
       · go_simp
         rfl
       go_simp; refine hK' _ ?_; clear hK' K'))
  refine mix_nil ?_
  clear e1
  have HV0 : Hid (OwnII (wd.alloc (.cells #[] 40)) (w.heap.size + 1) (.slice (some ⟨wd.heap.size, 0, none⟩) 0 0) []) := OwnII.empty rfl HQd.out.sz
  have HQ1 := Lib.hid (HQd.out.below (below_al (o := .cells #[] 40) (Below.refl _ _)))
  go_wp2_with fail
  go_loopw [7, 9] (fun v i wr => ∃ (k : Nat) (L : List (List Int)), k ≤ hh ∧ i = .int .i64 (k : Nat) ∧ Hid (DR w wr g code c ts.length A cx) ∧ Hid (OwnII wr (w.heap.size + 1) v L) ∧ Hid (L.length = k) ∧ Hid (∀ r ∈ L, RowIn ts.length hw r)) (fun _ i _ => hh - (intOf i).toNat)
  case atStart => exact ⟨0, [], by omega, rfl, HQ1, HV0, rfl, fun r hr => by simp at hr⟩
  case round =>
    clear HQ1 HV0 HQd
    obtain ⟨k, L, hk, rfl, HQ, HV, HLn, HA⟩ := hrel
    obtain ⟨w0, rfl⟩ : ∃ w0, w0 = wr := ⟨wr, rfl⟩
    obtain ⟨Av, cv, rfl, -⟩ := HV.out.rows
    by_cases hkn : k < hh
    · have hk' : (k : Int) < (hh : Int) := by omega
      go_wp2_with fail
      obtain ⟨N0, hN0⟩ : ∃ N0, N0 = w0.heap.size := ⟨_, rfl⟩
      have HN0 : Hid (w.heap.size + 1 ≤ N0) := by rw [hN0]; exact HQ.out.sz
      have HX0 : Hid (OwnIX (w0.alloc (.cells #[] 2)) (w.heap.size + 1) (fun q => N0 ≤ q) (.slice Av L.length cv) L) := by rw [hN0]; exact HV.out.toX.below (below_al (Below.refl _ _))
      have HU0 : Hid (OwnI (w0.alloc (.cells #[] 2)) N0 (.slice (some ⟨N0, 0, none⟩) 0 0) []) := by rw [hN0]; exact OwnI.emptyAt rfl (Nat.le_refl _)
      replace HQ := Lib.hid (HQ.out.below (below_al (o := .cells #[] 2) (Below.refl w0.heap.size w0)))
      rw [← hN0]
      clear HV
      have HNz0 : Hid (N0 ≤ (w0.alloc (.cells #[] 2)).heap.size) := by rw [hN0]; simp [Hid]
      clear hN0
      go_loopw [10, 11] (fun u i wr => ∃ (x : Nat) (row : List Int), x ≤ hw ∧ Hid (N0 ≤ wr.heap.size) ∧ i = .int .i64 (x : Nat) ∧ Hid (DR w wr g code c ts.length A cx) ∧ Hid (OwnIX wr (w.heap.size + 1) (fun q => N0 ≤ q) (.slice Av L.length cv) L) ∧ Hid (OwnI wr N0 u row) ∧ Hid (RowIn ts.length x row)) (fun _ i _ => hw - (intOf i).toNat)
      case atStart => exact ⟨0, [], by omega, HNz0, rfl, HQ, HX0, HU0, rfl, fun x hx => by simp at hx⟩
      case round =>
        clear HQ HX0 HU0 HNz0
        obtain ⟨x, row, hx, HNz, rfl, HQ, HX, HU, HR⟩ := hrel
        obtain ⟨w3, rfl⟩ : ∃ w3, w3 = wr := ⟨wr, rfl⟩
        obtain ⟨Au, cu, rfl, -, -⟩ := HU.out.shape
        by_cases hxw : x < hw
        · have hx' : (x : Int) < (hw : Int) := by omega
          go_wp2_with fail
          refine (l01Next_c g code _ _ HQ.out.src).mono ?_
          rintro e w4 ⟨r, rfl, a, _, b, S, G⟩
          replace HQ := Lib.hid (HQ.out.grow S G)
          replace HX := Lib.hid (HX.out.grew G (by have := HL.out; omega))
          replace HU := Lib.hid (HU.out.grew G (by have := HL.out; have := HN0.out; omega))
          obtain ⟨j, rfl⟩ := Int.eq_ofNat_of_zero_le a
          have hj : j < ts.length := by have := b (by omega); omega
          have HN4 := Lib.hid (Nat.le_trans HNz.out G.size)
          clear S G a b
          go_upto_block 4 with (fail)
          go_cut [12] (fun v wx => ∃ r : Nat, v = .int .i64 (r : Nat) ∧ Hid (r < ts.length) ∧ Hid (Below w4.heap.size w4 wx))
          case first =>
            go_wp2_with fail
            go_loopw [12, 13] (fun o i wr => ∃ q : Nat, q ≤ ts.length ∧ i = .int .i64 (q : Nat) ∧ o = .int .i64 (j : Nat) ∧ Hid (Below w4.heap.size w4 wr)) (fun _ i _ => ts.length - (intOf i).toNat)
            case atStart => exact ⟨0, by omega, rfl, rfl, Below.refl _ _⟩
            case round =>
              obtain ⟨q, hq, rfl, rfl, HB⟩ := hrel
              by_cases hqn : q < ts.length
              · have hq' : (q : Int) < (ts.length : Int) := by omega
                obtain ⟨s, hse, hs1, hs2⟩ : ∃ s : Nat, s = j + q ∧ IntKind.i64.wrap ((j : Int) + (q : Int)) = (s : Int) ∧ s ≤ 300 := ⟨j + q, rfl, by rw [IntWalk.i64_in _ (by omega)]; omega, by omega⟩
                clear hse
                obtain ⟨im, himl, hm1, hm2⟩ : ∃ im : Nat, im < ts.length ∧ (s : Int) % (ts.length : Int) = (im : Int) ∧ (s : Int).tmod (ts.length : Int) = (im : Int) := by
                  refine ⟨s % ts.length, Nat.mod_lt _ h0, ?_, ?_⟩
                  · simp
                  · rw [Int.tmod_eq_emod_of_nonneg (by omega)]; simp
                have HQr := Lib.hid (HQ.out.below HB.out)
                have hTw := HT.out wr HQr.out.sub
                obtain ⟨b9, o9, rfl, _, t0, t1, -, -⟩ := hTw im himl
                have d1 := HQr.out.box.cell 1 (by simp)
                simp only [List.getElem_cons_zero, List.getElem_cons_succ] at d1
                have HTw := Lib.hid hTw
                have g0 := keepC t0
                have g1 := keepC t1
                have g2 := keepC d1
                clear t0 t1 d1 hTw
                generalize ts[im] = t at *
                by_cases x0 : x = 0
                · have x0' : ((x : Int) == 0) = true := by simp [x0]
                  clear x0
                  by_cases k0 : k = 0
                  · have k0' : ((k : Int) == 0) = true := by simp [k0]
                    clear k0
                    go_wp2_with fail
                    refine wp_region_add (fun w' => Below (wr).heap.size (wr) w') (by kernel_rfl) (by kernel_rfl) ((Below.refl _ _).drew) ?_
                    repeat (first
                      | (refine add_skip rfl (fun K' hK' => ?_); go_simp; refine hK' _ ?_; clear hK' K')
                      | (refine add_do (v := ?_) rfl (fun w1 hb => ?_) (fun K' hK' => ?_); rotate_left
                         · go_simp
                           first
                           | (with_reducible exact rfl)
                           | (with_reducible exact ⟨rfl, hb⟩)
                           | exact rfl
                           | exact ⟨rfl, hb⟩
                         go_simp; refine hK' _ ?_; clear hK' K'))
                    refine add_nil ?_
                    intro wa hba
                    have HB3 := Lib.hid (HB.out.trans (hba.mono HB.out.size))
                    clear hba
                    go_wp2_with fail
                    go_meet
                    case rel => exact ⟨im, rfl, himl, HB3.out⟩
                  · have k0' : ((k : Int) == 0) = false := by simp [k0]
                    have q1 : IntKind.i64.wrap ((k : Int) - 1) = ((k - 1 : Nat) : Int) := by rw [IntWalk.i64_in _ (by omega)]; omega
                    have q2 : k - 1 < L.length := by have := HLn.out; omega
                    obtain ⟨Aw, cw, ew, hrw⟩ := (HX.out.below HB.out).shape
                    injection ew with ew ew1 ew2
                    subst ew ew2
                    obtain ⟨b6, o6, A7, c7, rfl, _, u0, u1⟩ := hrw (k - 1) q2
                    have hrl := HA.out _ (List.getElem_mem q2)
                    have q3 : x < L[k - 1].length := by rw [hrl.1]; exact hxw
                    obtain ⟨b7, o7, rfl, _, u2⟩ := u1.int x q3
                    obtain ⟨m2, e2, l2⟩ := hrl.at_ q3
                    rw [e2] at u2
                    obtain ⟨-, -, -, t4⟩ := HTw.out.pair rfl m2 l2
                    have g5 := keepC u0
                    have g6 := keepC u2
                    have g7 := keepC t4
                    clear u0 u1 u2 t4 e2 hrl hrw
                    generalize ts[m2] = t2 at *
                    generalize L[k - 1].length = lu at *
                    clear k0
                    cases hS : (t2.d == t.b)
                    · go_wp2_with fail
                      refine wp_region_add (fun w' => Below (wr).heap.size (wr) w') (by kernel_rfl) (by kernel_rfl) ((Below.refl _ _).drew) ?_
                      repeat (first
                        | (refine add_skip rfl (fun K' hK' => ?_); go_simp; refine hK' _ ?_; clear hK' K')
                        | (refine add_do (v := ?_) rfl (fun w1 hb => ?_) (fun K' hK' => ?_); rotate_left
                           · go_simp
                             first
                             | (with_reducible exact rfl)
                             | (with_reducible exact ⟨rfl, hb⟩)
                             | exact rfl
                             | exact ⟨rfl, hb⟩
                           go_simp; refine hK' _ ?_; clear hK' K'))
                      refine add_nil ?_
                      intro wa hba
                      have HB3 := Lib.hid (HB.out.trans (hba.mono HB.out.size))
                      clear hba
                      go_wp2_with fail
                      go_roundw
                      case rel => exact ⟨q + 1, by omega, by go_num, rfl, HB3.out⟩
                      case measure => simp [intOf]; omega
                    · go_wp2_with fail
                      refine wp_region_add (fun w' => Below (wr).heap.size (wr) w') (by kernel_rfl) (by kernel_rfl) ((Below.refl _ _).drew) ?_
                      repeat (first
                        | (refine add_skip rfl (fun K' hK' => ?_); go_simp; refine hK' _ ?_; clear hK' K')
                        | (refine add_do (v := ?_) rfl (fun w1 hb => ?_) (fun K' hK' => ?_); rotate_left
                           · go_simp
                             first
                             | (with_reducible exact rfl)
                             | (with_reducible exact ⟨rfl, hb⟩)
                             | exact rfl
                             | exact ⟨rfl, hb⟩
                           go_simp; refine hK' _ ?_; clear hK' K'))
                      refine add_nil ?_
                      intro wa hba
                      have HB3 := Lib.hid (HB.out.trans (hba.mono HB.out.size))
                      clear hba
                      go_wp2_with fail
                      go_meet
                      case rel => exact ⟨im, rfl, himl, HB3.out⟩
                · have x0' : ((x : Int) == 0) = false := by simp [x0]
                  have p1 : IntKind.i64.wrap ((x : Int) - 1) = ((x - 1 : Nat) : Int) := by rw [IntWalk.i64_in _ (by omega)]; omega
                  have p2 : x - 1 < row.length := by have := HR.out.1; omega
                  obtain ⟨b5, o5, rfl, _, y0⟩ := (HU.out.below HB.out).cells.int (x - 1) p2
                  obtain ⟨m1, e1, l1⟩ := HR.out.at_ p2
                  rw [e1] at y0
                  obtain ⟨-, -, t3, -⟩ := HTw.out.pair rfl m1 l1
                  have g3 := keepC y0
                  have g4 := keepC t3
                  clear y0 t3 e1
                  generalize ts[m1] = t1 at *
                  clear x0
                  cases hE : (t1.c == t.a)
                  · go_wp2_with fail
                    refine wp_region_add (fun w' => Below (wr).heap.size (wr) w') (by kernel_rfl) (by kernel_rfl) ((Below.refl _ _).drew) ?_
                    repeat (first
                      | (refine add_skip rfl (fun K' hK' => ?_); go_simp; refine hK' _ ?_; clear hK' K')
                      | (refine add_do (v := ?_) rfl (fun w1 hb => ?_) (fun K' hK' => ?_); rotate_left
                         · go_simp
                           first
                           | (with_reducible exact rfl)
                           | (with_reducible exact ⟨rfl, hb⟩)
                           | exact rfl
                           | exact ⟨rfl, hb⟩
                         go_simp; refine hK' _ ?_; clear hK' K'))
                    refine add_nil ?_
                    intro wa hba
                    have HB3 := Lib.hid (HB.out.trans (hba.mono HB.out.size))
                    clear hba
                    go_wp2_with fail
                    go_roundw
                    case rel => exact ⟨q + 1, by omega, by go_num, rfl, HB3.out⟩
                    case measure => simp [intOf]; omega
                  · by_cases k0 : k = 0
                    · have k0' : ((k : Int) == 0) = true := by simp [k0]
                      clear k0
                      go_wp2_with fail
                      refine wp_region_add (fun w' => Below (wr).heap.size (wr) w') (by kernel_rfl) (by kernel_rfl) ((Below.refl _ _).drew) ?_
                      repeat (first
                        | (refine add_skip rfl (fun K' hK' => ?_); go_simp; refine hK' _ ?_; clear hK' K')
                        | (refine add_do (v := ?_) rfl (fun w1 hb => ?_) (fun K' hK' => ?_); rotate_left
                           · go_simp
                             first
                             | (with_reducible exact rfl)
                             | (with_reducible exact ⟨rfl, hb⟩)
                             | exact rfl
                             | exact ⟨rfl, hb⟩
                           go_simp; refine hK' _ ?_; clear hK' K'))
                      refine add_nil ?_
                      intro wa hba
                      have HB3 := Lib.hid (HB.out.trans (hba.mono HB.out.size))
                      clear hba
                      go_wp2_with fail
                      go_meet
                      case rel => exact ⟨im, rfl, himl, HB3.out⟩
                    · have k0' : ((k : Int) == 0) = false := by simp [k0]
                      have q1 : IntKind.i64.wrap ((k : Int) - 1) = ((k - 1 : Nat) : Int) := by rw [IntWalk.i64_in _ (by omega)]; omega
                      have q2 : k - 1 < L.length := by have := HLn.out; omega
                      obtain ⟨Aw, cw, ew, hrw⟩ := (HX.out.below HB.out).shape
                      injection ew with ew ew1 ew2
                      subst ew ew2
                      obtain ⟨b6, o6, A7, c7, rfl, _, u0, u1⟩ := hrw (k - 1) q2
                      have hrl := HA.out _ (List.getElem_mem q2)
                      have q3 : x < L[k - 1].length := by rw [hrl.1]; exact hxw
                      obtain ⟨b7, o7, rfl, _, u2⟩ := u1.int x q3
                      obtain ⟨m2, e2, l2⟩ := hrl.at_ q3
                      rw [e2] at u2
                      obtain ⟨-, -, -, t4⟩ := HTw.out.pair rfl m2 l2
                      have g5 := keepC u0
                      have g6 := keepC u2
                      have g7 := keepC t4
                      clear u0 u1 u2 t4 e2 hrl hrw
                      generalize ts[m2] = t2 at *
                      generalize L[k - 1].length = lu at *
                      clear k0
                      cases hS : (t2.d == t.b)
                      · go_wp2_with fail
                        refine wp_region_add (fun w' => Below (wr).heap.size (wr) w') (by kernel_rfl) (by kernel_rfl) ((Below.refl _ _).drew) ?_
                        repeat (first
                          | (refine add_skip rfl (fun K' hK' => ?_); go_simp; refine hK' _ ?_; clear hK' K')
                          | (refine add_do (v := ?_) rfl (fun w1 hb => ?_) (fun K' hK' => ?_); rotate_left
                             · go_simp
                               first
                               | (with_reducible exact rfl)
                               | (with_reducible exact ⟨rfl, hb⟩)
                               | exact rfl
                               | exact ⟨rfl, hb⟩
                             go_simp; refine hK' _ ?_; clear hK' K'))
                        refine add_nil ?_
                        intro wa hba
                        have HB3 := Lib.hid (HB.out.trans (hba.mono HB.out.size))
                        clear hba
                        go_wp2_with fail
                        go_roundw
                        case rel => exact ⟨q + 1, by omega, by go_num, rfl, HB3.out⟩
                        case measure => simp [intOf]; omega
                      · go_wp2_with fail
                        refine wp_region_add (fun w' => Below (wr).heap.size (wr) w') (by kernel_rfl) (by kernel_rfl) ((Below.refl _ _).drew) ?_
                        repeat (first
                          | (refine add_skip rfl (fun K' hK' => ?_); go_simp; refine hK' _ ?_; clear hK' K')
                          | (refine add_do (v := ?_) rfl (fun w1 hb => ?_) (fun K' hK' => ?_); rotate_left
                             · go_simp
                               first
                               | (with_reducible exact rfl)
                               | (with_reducible exact ⟨rfl, hb⟩)
                               | exact rfl
                               | exact ⟨rfl, hb⟩
                             go_simp; refine hK' _ ?_; clear hK' K'))
                        refine add_nil ?_
                        intro wa hba
                        have HB3 := Lib.hid (HB.out.trans (hba.mono HB.out.size))
                        clear hba
                        go_wp2_with fail
                        go_meet
                        case rel => exact ⟨im, rfl, himl, HB3.out⟩
              · have hq' : ¬ (q : Int) < (ts.length : Int) := by omega
                go_wp2_with fail
                go_meet
                case rel => exact ⟨j, rfl, hj, HB.out⟩
          case rest =>
            obtain ⟨r, rfl, Hr, HB⟩ := hcut
            replace HQ := Lib.hid (HQ.out.below HB.out)
            replace HX := Lib.hid (HX.out.below HB.out)
            replace HU := Lib.hid (HU.out.below HB.out)
            have HN2 := Lib.hid (Nat.le_trans HN4.out HB.out.size)
            go_wp2_with (at_builtin; refine Hold.of ?_)
            refine Hold.to ?_
            refine wpl_app_int rfl (.tmp 98) (.tmp 100) rfl N0 _ row (r : Int) rfl (HU.out.alloc _) _ 0 rfl (cell_alloc_at _ _ _ _ _ rfl) (by have := HR.out.1; omega) (by have := HN2.out; simp; omega) (fun v' w' a1 a2 a3 => ?_)
            have HQ2 := Lib.hid ((HQ.out.below (below_al (Below.refl _ _))).app a2 (fun q hq => by have := (World.ownsRow.lt HU.out q hq).1; have := HN0.out; omega))
            have HX2 := Lib.hid ((HX.out.below (below_al (Below.refl _ _))).appX a2 (fun q hq => (World.ownsRow.lt HU.out q hq).1))
            have O1 := Lib.hid a1
            have HR2 : Hid (RowIn ts.length (x + 1) (row ++ [(r : Int)])) := ⟨by rw [List.length_append, HR.out.1]; rfl, fun y hy => by
              rcases List.mem_append.1 hy with hy | hy
              · exact HR.out.2 y hy
              · have := List.mem_singleton.1 hy; have := Hr.out; omega⟩
            have HN5 : Hid (N0 ≤ w'.heap.size) := Nat.le_trans HN2.out (by have := a2.size; simp at this; omega)
            clear a1 a2 a3
            go_wp2_with fail
            go_roundw
            case rel => exact ⟨x + 1, row ++ [(r : Int)], by omega, HN5, by go_num, HQ2, HX2, O1, HR2⟩
            case measure => simp [intOf]; omega
        · have hx' : ¬ (x : Int) < (hw : Int) := by omega
          have hxe : Hid (x = hw) := by show _ = _; omega
          go_wp2_with (at_builtin; refine Hold.of ?_)
          refine Hold.to ?_
          refine wpl_app_rowA rfl (.tmp 102) (.tmp 104) rfl (w.heap.size + 1) N0 _ L (.slice Au row.length cu) row rfl (HX.out.below (below_al (Below.refl _ _))) (HU.out.alloc _) HN0.out _ 0 rfl (cell_alloc_at _ _ _ _ _ rfl) (by have := HLn.out; omega) (by have := HQ.out.sz; simp; omega) (fun v' w' a1 a2 a3 => ?_)
          have HQ2 := Lib.hid ((HQ.out.below (below_al (Below.refl _ _))).app a2 a3)
          have O1 := Lib.hid a1
          have HLn2 : Hid ((L ++ [row]).length = k + 1) := by show _ = _; rw [List.length_append, HLn.out]; rfl
          have HA2 : Hid (∀ r ∈ L ++ [row], RowIn ts.length hw r) := fun r hr => by
            rcases List.mem_append.1 hr with hr | hr
            · exact HA.out r hr
            · have := List.mem_singleton.1 hr; subst this; rw [← hxe.out]; exact HR.out
          clear a1 a2 a3
          go_wp2_with fail
          go_roundw
          case rel => exact ⟨k + 1, L ++ [row], by omega, by go_num, HQ2, O1, HLn2, HA2⟩
          case measure => simp [intOf]; omega
    · have hk' : ¬ (k : Int) < (hh : Int) := by omega
      have HLs : Hid (Short 4 L) := Short_iff.2 (fun r hr => by rw [(HA.out r hr).1]; exact hw4)
      have HLk : Hid (L.length ≤ 4 ∧ 1 ≤ L.length) := by have := HLn.out; exact ⟨by omega, by omega⟩
      go_wp2_with fail
      refine (l01Next_c g code _ _ HQ.out.src).mono ?_
      rintro e w4 ⟨r, rfl, _, _, _, S, G⟩
      replace HQ := Lib.hid (HQ.out.grow S G)
      replace HV := Lib.hid (HV.out.grew G (by have := HL.out; omega))
      clear S G hk' hkn
      by_cases r0 : r = 0
      · have r0' : (r == 0) = true := by simp [r0]
        clear r0
        go_wp2_with (at_builtin; refine Hold.of ?_)
        refine Hold.to ?_
        refine wpl_app_rowA rfl (.tmp 110) (.tmp 112) rfl (w.heap.size + 1) w4.heap.size _ L (.slice (some ⟨w4.heap.size, 0, none⟩) 0 0) [] rfl (HV.out.toX.below (below_al (below_al (Below.refl _ _)))) ((OwnI.emptyAt rfl (Nat.le_refl _)).alloc _) HQ.out.sz _ 0 rfl (cell_al _ _ _ _ _ _ (by simp) rfl) (by have := HLk.out; omega) (by have := HQ.out.sz; simp; omega) (fun v' w' a1 a2 a3 => ?_)
        have HQ2 := Lib.hid ((HQ.out.below (below_al (below_al (Below.refl _ _)))).app a2 a3)
        have HV2 := Lib.hid a1
        have HS2 : Hid (Short 4 (L ++ [[]])) := Short_iff.2 fun r hr => by
          rcases List.mem_append.1 hr with hr | hr
          · exact Short_iff.1 HLs.out r hr
          · have := List.mem_singleton.1 hr; subst this; simp
        have HL2 : Hid ((L ++ [([] : List Int)]).length ≤ 5) := by show _ ≤ _; rw [List.length_append]; have := HLk.out; simp; omega
        clear a1 a2 a3
        go_wp2_with fail
        go_ret
        exact ⟨_, _, rfl, HV2.out, HL2.out, HS2.out, HQ2.out.src, HQ2.out.sub⟩
      · have r0' : (r == 0) = false := by simp [r0]
        clear r0
        by_cases r1 : r = 1
        · have r1' : (r == 1) = true := by simp [r1]
          clear r1
          have hl0 : 0 < L.length := by have := HLk.out; omega
          have hlr : 0 < L[0].length := by rw [(HA.out _ (List.getElem_mem hl0)).1]; omega
          obtain ⟨gv, gr, cr, rfl, k1, k2, c0, k3, k4, c1, z1, -⟩ := HV.out.at2 0 hl0 0 hlr
          have HC0 := Lib.hid c0
          have HK := Lib.hid (And.intro k1 k3)
          have HLn0 : Hid (L[0].length = L[0].length) := rfl
          clear c1 z1
          generalize hln : L[0].length = l0 at c0 HC0 hlr ⊢
          have HLn := Lib.hid hln
          clear hln
          go_wp2_with fail
          refine (pick_new g code _ HQ.out.src _ _ [-1, (ts.length : Int)] _ rfl rfl (by simp)).mono ?_
          rintro e w5 ⟨r5, rfl, -, S, G⟩
          replace HQ := Lib.hid (HQ.out.grow S G)
          replace HV := Lib.hid (HV.out.grew G (by have := HL.out; omega))
          have HC5 := Lib.hid (G.cell HC0.out (fun e => by injection e with e; have := HK.out.1; have := HL.out; dsimp only at e; omega))
          clear S G c0 k1 k2 k3 k4
          obtain ⟨gv', gr', cr', e1, -, -, c0, k3, k4, c1, z1, st⟩ := HV.out.at2 0 hl0 0 (by rw [HLn.out]; exact hlr)
          injection e1 with e1
          injection e1 with e1 _
          subst e1
          have e2 := HC5.out.symm.trans c0
          injection e2 with e2
          injection e2 with e2 _ _
          injection e2 with e2
          injection e2 with e2 _
          subst e2
          have HQ2 := Lib.hid (HQ.out.store gr 0 (.int .i64 r5) k3)
          have HV2 := Lib.hid (st r5)
          have HS2 : Hid (Short 4 (L.set 0 (L[0].set 0 r5))) := Short_iff.2 fun r hr => by
            rcases List.mem_or_eq_of_mem_set hr with hr | rfl
            · exact Short_iff.1 HLs.out r hr
            · rw [List.length_set]; exact HLs.out 0 hl0
          have HL2 : Hid ((L.set 0 (L[0].set 0 r5)).length ≤ 5) := by show _ ≤ _; rw [List.length_set]; have := HLk.out; omega
          clear c0 st HC5 HC0
          go_wp2_with fail
          go_ret
          exact ⟨_, _, rfl, HV2.out, HL2.out, HS2.out, HQ2.out.src, HQ2.out.sub⟩
        · have r1' : (r == 1) = false := by simp [r1]
          clear r1
          by_cases r2 : r = 2
          · have r2' : (r == 2) = true := by simp [r2]
            clear r2
            have HQ2 := Lib.hid (HQ.out.below (below_al (o := .cells #[] 40) (Below.refl w4.heap.size w4)))
            have HV2 : Hid (OwnII (w4.alloc (.cells #[] 40)) (w.heap.size + 1) (.slice (some ⟨w4.heap.size, 0, none⟩) 0 0) []) := OwnII.empty rfl HQ.out.sz
            have HS2 : Hid (Short 4 []) := fun k hk => by simp at hk
            have HL2 : Hid (([] : List (List Int)).length ≤ 5) := by show _ ≤ _; simp
            go_wp2_with fail
            go_ret
            exact ⟨_, _, rfl, HV2.out, HL2.out, HS2.out, HQ2.out.src, HQ2.out.sub⟩
          · have r2' : (r == 2) = false := by simp [r2]
            clear r2
            have HQ2 := HQ
            have HV2 := HV
            have HS2 := HLs
            have HL2 : Hid (L.length ≤ 5) := by have := HLk.out; show _ ≤ _; omega
            go_wp2_with fail
            go_ret
            exact ⟨_, _, rfl, HV2.out, HL2.out, HS2.out, HQ2.out.src, HQ2.out.sub⟩

end Go.Proofs.Ytkgnejhflnekaaa
