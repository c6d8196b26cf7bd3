/- Contracts and lemmas for the statements of this seat, written for this claim; each theorem states its own conditions. -/
import Derived.Test.YtkgnejhflnekaaaGreatMuY3
import Derived.Test.YtkgnejhflnekaaaGreatMuSr
import Derived.Test.YtkgnejhflnekaaaGreatMuJ3
import Derived.Test.YtkgnejhflnekaaaGreatMuCp
import Derived.Test.YtkgnejhflnekaaaGreatMuTe1
set_option linter.unusedVariables false
set_option linter.unusedSimpArgs false
namespace Go.Proofs.YtkgnejhflnekaaaGreat
open Go.RowKit
def OrderDrawn (w : World) (g : Nat) (code : List Int) (n : Int) (e : Ending) (w' : World) : Prop :=
  ∃ v xs, e = .returned v ∧ OwnI w' w.heap.size v xs ∧ xs.length = n.toNat ∧ (∀ x ∈ xs, 0 ≤ x ∧ x < n) ∧ Src w' g code ∧ w.grownBy w' (some g)
theorem OwnI.grew {w w1 : World} {B g : Nat} {v : Value} {xs : List Int} (h : OwnI w B v xs) (hg : w.grownBy w1 (some g)) (hlt : g < B) : OwnI w1 B v xs :=
  h.grown hg (by cases e : v.ownBlock with | none => exact .inl rfl | some k => exact .inr (fun e2 => by injection e2 with e2; have := (World.ownsRow.lt h k e).1; omega))
theorem OwnI.maxc {w : World} {B n cx : Nat} {A : Option Addr} {xs : List Int} (h : OwnI w B (.slice A n cx) xs) : cx ≤ maxLen := by
  obtain ⟨h1, ⟨e, h2⟩ | ⟨g, cap, cur, e, _, _, h3, h4, _⟩⟩ := h
  · injection e with e1 e2 e3
    subst e3; simp [maxLen]
  · injection e with e1 e2 e3
    subst e3; exact h4
theorem OwnI.addr {w : World} {B n cx : Nat} {A : Option Addr} {xs : List Int} (h : OwnI w B (.slice A n cx) xs) (hx : 0 < xs.length) : ∃ g, A = some ⟨g, 0, none⟩ := by
  obtain ⟨h1, ⟨e, h2⟩ | ⟨g, cap, cur, e, _, _, h3, h4, _⟩⟩ := h
  · omega
  · injection e with e1 e2 e3
    exact ⟨g, e1⟩
set_option maxRecDepth 100000 in
set_option maxHeartbeats 1000000 in
theorem l01DrawOrder_c (g : Nat) (code : List Int) (n : Int) (w : World) (h : Src w g code) (hn : n ≤ 1000) :
    Calls Tryz.prog 170 #[.pointer (some ⟨g, 0, none⟩), .int .i64 n] w (OrderDrawn w g code n) := by
  have HS := Lib.hid h
  clear h
  go_enter Tryz.func170, Tryz.ntmps170
  go_wp2_with fail
  go_loopw [5, 6] (fun v i wr => ∃ (k : Nat) (xs : List Int) (g0 cx : Nat), k ≤ n.toNat ∧ i = .int .i64 (k : Nat) ∧ v = .slice (some ⟨g0, 0, none⟩) xs.length cx ∧ Hid (OwnI wr w.heap.size (.slice (some ⟨g0, 0, none⟩) xs.length cx) xs) ∧ Hid (xs.length = k) ∧ Hid (∀ x ∈ xs, 0 ≤ x ∧ x < n) ∧ Hid (Src wr g code) ∧ Hid (w.grownBy wr (some g))) (fun _ i _ => n.toNat - (intOf i).toNat)
  case atStart => exact ⟨0, [], _, _, by omega, rfl, rfl, OwnI.made w _ #[] [] rfl (Nat.le_refl _) (by simp), rfl, fun x hx => by simp at hx, HS.out.alloc _, World.grownBy_alloc w _ _⟩
  case round =>
    obtain ⟨k, xs, g0, cx, hk, rfl, rfl, HO, HL, HA, HSr, HG⟩ := hrel
    by_cases hkn : (k : Int) < n
    · have hk9 : k < 1000 := by omega
      go_wp2_with fail
      refine (l01Next_c g code _ _ HSr.out).mono ?_
      rintro e w1 ⟨r, rfl, r0, _, r1, S, G⟩
      obtain ⟨j, rfl⟩ := Int.eq_ofNat_of_zero_le r0
      have hj : j ≤ k := by have := r1 (by omega); omega
      have HO1 := Lib.hid (HO.out.grew G HS.out.lt)
      have HG1 := Lib.hid (HG.out.trans G)
      have HS1 := Lib.hid S
      have hcx := HO.out.cap
      have hL : xs.length = k := HL.out
      have hjx : j ≤ xs.length := by omega
      have hjc : j ≤ cx := by omega
      clear r0 r1 S G hL
      have HN1 : Hid ((xs.take j ++ [(k : Int)] ++ xs.drop j).length = xs.length + 1) := by show _ = _; simp; omega
      have HA2 : Hid (∀ x ∈ xs.take j ++ [(k : Int)] ++ xs.drop j, 0 ≤ x ∧ x < n) := fun x hx => by
        rcases List.mem_append.1 hx with hx | hx
        · rcases List.mem_append.1 hx with hx | hx
          · exact HA.out x (List.mem_of_mem_take hx)
          · have := List.mem_singleton.1 hx; subst this; omega
        · exact HA.out x (List.mem_of_mem_drop hx)
      have HXL : Hid (xs.length ≤ 1000) := by have := HL.out; show _ ≤ _; omega
      have HTL : Hid ((xs.take j).length = j) := by show _ = _; simp; omega
      have HDL : Hid ((xs.drop j).length = xs.length - j) := by show _ = _; simp
      have HCE : Hid (∀ q (h : q < xs.length), w1.cell? ⟨g0, q, none⟩ = some (.int .i64 xs[q])) := fun q h => by
        obtain ⟨A', c', e, hC, _⟩ := HO1.out.shape
        injection e with e
        rw [← e] at hC
        obtain ⟨b, off, e2, _, hc⟩ := hC.int q h
        injection e2 with e2
        injection e2 with e2 e3
        subst e2 e3
        rwa [Nat.zero_add] at hc
      have Hhd : Hid (w.heap.size ≤ w1.heap.size) := HG1.out.size
      by_cases hcj : cx = j
      · replace hcj := hcj.symm
        subst hcj
        go_wp2_with fail
        refine wp_region_plan (.det 0 (.det 1 (.det 2 (.det 4 (.det 7 (.det 8 (.det 9 (.two 3 (.one 5 (.one 6 (.one 10 (.det 11 (.done))))) 5 (.one 3 (.one 6 (.one 10 (.det 11 (.done))))))))))))) (fun w' => Below (w1).heap.size (w1) w') (fun a a' w' => ∃ x0 x1 x2 x3 x4 x5 x6 x7 x8 x9 x10 x11, a' = ((((((((((((a.put (some 18) x0).put (some 19) x1).put (some 20) x2).put (some 21) x3).put (some 22) x4).put (some 23) x5).put (some 24) x6).put (some 25) x7).put (some 26) x8).put (some 27) x9).put (some 28) x10).put (some 5) x11) ∧ ∃ g0' cx', x11 = .slice (some ⟨g0', 0, none⟩) (xs.length + 1) cx' ∧ Hid (OwnI w' w.heap.size (.slice (some ⟨g0', 0, none⟩) (xs.length + 1) cx') (xs.take j ++ [(k : Int)] ++ xs.drop j))) (by kernel_rfl) (by kernel_rfl) (fun _ _ d _ _ h => by cases d <;> exact h) ((Below.refl _ _).drew) ?_ ?_
        rotate_left
        · rintro a' wa hba ⟨x0, x1, x2, x3, x4, x5, x6, x7, x8, x9, x10, x11, rfl, hP⟩
          obtain ⟨g0', cx', rfl, HN⟩ := hP
          have HS2 := Lib.hid (HS1.out.below hba)
          have HG2 := Lib.hid (HG1.out.trans (grown_below hba (some g)))
          clear hba
          go_simp
          go_wp2_with fail
          go_roundw
          case rel => exact ⟨k + 1, xs.take j ++ [(k : Int)] ++ xs.drop j, g0', cx', by omega, by go_num, by rw [HN1.out], by rw [HN1.out]; exact HN, by show _ = _; rw [HN1.out, HL.out], HA2, HS2, HG2⟩
          case measure => simp [intOf]; omega
        repeat (first
          | (refine plan_skip rfl rfl (fun K' hK' => ?_); go_simp; refine hK' _ ?_; clear hK' K')
          | (refine plan_do (v := ?_) rfl rfl (fun w1 hb => ?_) (fun K' hK' => ?_); rotate_left
             · go_simp
               rfl
             go_simp; refine hK' _ ?_; clear hK' K'))
        generalize hwd : ({ w1 with drawn := w1.drawn + 1 } : World) = wd
        have HBd : Hid (Below w1.heap.size w1 wd) := by rw [← hwd]; exact (Below.refl _ _).drew
        clear hwd
        have HCd : Hid (∀ q (h : q < xs.length), ∀ W, Below w1.heap.size w1 W → W.cell? ⟨g0, q, none⟩ = some (.int .i64 xs[q])) := fun q h => keepC (HCE.out q h)
        have HOW : Hid (∀ c0 W, Below w1.heap.size w1 W → Calls Tryz.prog 185 #[.slice (some ⟨g0, 0, none⟩) j c0] W fun e w' => ∃ v, e = .returned v ∧ OwnI w' W.heap.size v (xs.take j) ∧ Below W.heap.size W w') := fun c0 W hW => by
          have := l01Own_c (xs.take j) g0 0 c0 W (fun q hq => by
            have hq' : q < xs.length := by have := HTL.out; omega
            rw [Nat.zero_add, List.getElem_take]
            exact HCd.out q hq' W hW) (by have := HTL.out; omega)
          rwa [HTL.out] at this
        refine plan_two ?_ ?_
        · refine step_op rfl rfl (fun K' hK' => ?_)
          go_simp
          refine (HOW.out _ _ HBd.out).mono ?_
          rintro e wa ⟨u, rfl, hu, hb⟩
          have Ba := Lib.hid (HBd.out.trans (hb.mono HBd.out.size))
          have Oa := Lib.hid (hu.weaken HBd.out.size)
          clear hu hb
          refine hK' _ _ (Ba.out) ?_; clear hK' K'
          refine plan_one (step_op rfl rfl (fun K' hK' => ?_))
          go_simp
          obtain ⟨wb, hwb⟩ : ∃ wb, wb = wa.alloc (.cells #[.int .i64 (k : Int)] 2) := ⟨_, rfl⟩
          obtain ⟨bN, hbN⟩ : ∃ bN, bN = wa.heap.size := ⟨_, rfl⟩
          have HOb : Hid (OwnI wb w1.heap.size u (xs.take j)) := by rw [hwb]; exact Oa.out.alloc _
          have HNb : Hid (wb.cell? ⟨bN, 0, none⟩ = some (.int .i64 (k : Int))) := by rw [hwb, hbN]; exact cell_alloc_at _ _ _ _ _ rfl
          have HBb : Hid (Below w1.heap.size w1 wb) := by rw [hwb]; exact below_al Ba.out
          rw [← hwb, ← hbN]
          clear hwb hbN
          refine hK' _ _ (HBb.out) ?_; clear hK' K'
          refine plan_one (step_op rfl rfl (fun K' hK' => ?_))
          refine app_int2 (.tmp 21) (.tmp 23) rfl w1.heap.size _ (xs.take j) (k : Int) rfl HOb.out bN 0 rfl HNb.out (by have := HTL.out; omega) (by have := HBb.out.size; omega) (fun v' w' a1 a2 a3 => ?_)
          have B1 := Lib.hid (HBb.out.grown a2 HBb.out.size (fun q hq => (World.ownsRow.lt HOb.out q hq).1))
          have O1 := Lib.hid a1
          clear a1 a2 a3
          refine hK' _ _ (B1.out) ?_; clear hK' K'
          refine plan_one (step_op rfl rfl (fun K' hK' => ?_))
          refine app_intsN (.tmp 24) (.tmp 27) rfl w1.heap.size _ (xs.take j ++ [(k : Int)]) (xs.drop j) rfl O1.out g0 (0) (0) (by rw [HDL.out]; go_simp) (fun q hq => ?_) (by rw [HDL.out, List.length_append, HTL.out]; have := HXL.out; simp; omega) B1.out.size (fun v'' w'' b1 b2 b3 => ?_)
          · have := HDL.out
            have := hcx
            have hq' : j + q < xs.length := by omega
            have hz : 0 + q = j + q := by omega
            rw [List.getElem_drop]
            first
            | exact HCd.out (j + q) hq' _ B1.out
            | (rw [hz]; exact HCd.out (j + q) hq' _ B1.out)
          have B2 := Lib.hid (B1.out.grown b2 B1.out.size (fun q hq => (World.ownsRow.lt O1.out q hq).1))
          obtain ⟨A3, c3, e3, -⟩ := b1.shape
          obtain ⟨g3, rfl⟩ : ∃ g3, A3 = some ⟨g3, 0, none⟩ := by rw [e3] at b1; exact b1.addr (by rw [HN1.out]; omega)
          have O2 : Hid (OwnI w'' w.heap.size (.slice (some ⟨g3, 0, none⟩) (xs.length + 1) c3) (xs.take j ++ [(k : Int)] ++ xs.drop j)) := by rw [← HN1.out, ← e3]; exact b1.weaken Hhd.out
          rw [HN1.out] at e3
          subst e3
          clear b1 b2 b3
          refine hK' _ _ (B2.out) ?_; clear hK' K'
          repeat (first
            | (refine plan_skip rfl rfl (fun K' hK' => ?_); go_simp; refine hK' _ ?_; clear hK' K')
            | (refine plan_do (v := ?_) rfl rfl (fun w1 hb => ?_) (fun K' hK' => ?_); rotate_left
               · go_simp
                 rfl
               go_simp; refine hK' _ ?_; clear hK' K'))
          refine plan_done ⟨?_, ?_, ?_, ?_, ?_, ?_, ?_, ?_, ?_, ?_, ?_, ?_, ?_, ?_⟩
          rotate_left 12
          · go_simp; (first | rfl | (and_intros <;> rfl))
          · exact ⟨g3, c3, rfl, O2⟩
        · refine step_op rfl rfl (fun K' hK' => ?_)
          go_simp
          obtain ⟨wa, hwa⟩ : ∃ wa, wa = wd.alloc (.cells #[.int .i64 (k : Int)] 2) := ⟨_, rfl⟩
          obtain ⟨bN, hbN⟩ : ∃ bN, bN = wd.heap.size := ⟨_, rfl⟩
          have HNa : Hid (wa.cell? ⟨bN, 0, none⟩ = some (.int .i64 (k : Int))) := by rw [hwa, hbN]; exact cell_alloc_at _ _ _ _ _ rfl
          have Ba : Hid (Below w1.heap.size w1 wa) := by rw [hwa]; exact below_al HBd.out
          rw [← hwa, ← hbN]
          clear hwa hbN
          refine hK' _ _ (Ba.out) ?_; clear hK' K'
          refine plan_one (step_op rfl rfl (fun K' hK' => ?_))
          go_simp
          refine (HOW.out _ _ Ba.out).mono ?_
          rintro e wb ⟨u, rfl, hu, hb⟩
          have HBb := Lib.hid (Ba.out.trans (hb.mono Ba.out.size))
          have HOb := Lib.hid (hu.weaken Ba.out.size)
          have HNb := Lib.hid (keepC HNa.out _ hb)
          clear hu hb
          refine hK' _ _ (HBb.out) ?_; clear hK' K'
          refine plan_one (step_op rfl rfl (fun K' hK' => ?_))
          refine app_int2 (.tmp 21) (.tmp 23) rfl w1.heap.size _ (xs.take j) (k : Int) rfl HOb.out bN 0 rfl HNb.out (by have := HTL.out; omega) (by have := HBb.out.size; omega) (fun v' w' a1 a2 a3 => ?_)
          have B1 := Lib.hid (HBb.out.grown a2 HBb.out.size (fun q hq => (World.ownsRow.lt HOb.out q hq).1))
          have O1 := Lib.hid a1
          clear a1 a2 a3
          refine hK' _ _ (B1.out) ?_; clear hK' K'
          refine plan_one (step_op rfl rfl (fun K' hK' => ?_))
          refine app_intsN (.tmp 24) (.tmp 27) rfl w1.heap.size _ (xs.take j ++ [(k : Int)]) (xs.drop j) rfl O1.out g0 (0) (0) (by rw [HDL.out]; go_simp) (fun q hq => ?_) (by rw [HDL.out, List.length_append, HTL.out]; have := HXL.out; simp; omega) B1.out.size (fun v'' w'' b1 b2 b3 => ?_)
          · have := HDL.out
            have := hcx
            have hq' : j + q < xs.length := by omega
            have hz : 0 + q = j + q := by omega
            rw [List.getElem_drop]
            first
            | exact HCd.out (j + q) hq' _ B1.out
            | (rw [hz]; exact HCd.out (j + q) hq' _ B1.out)
          have B2 := Lib.hid (B1.out.grown b2 B1.out.size (fun q hq => (World.ownsRow.lt O1.out q hq).1))
          obtain ⟨A3, c3, e3, -⟩ := b1.shape
          obtain ⟨g3, rfl⟩ : ∃ g3, A3 = some ⟨g3, 0, none⟩ := by rw [e3] at b1; exact b1.addr (by rw [HN1.out]; omega)
          have O2 : Hid (OwnI w'' w.heap.size (.slice (some ⟨g3, 0, none⟩) (xs.length + 1) c3) (xs.take j ++ [(k : Int)] ++ xs.drop j)) := by rw [← HN1.out, ← e3]; exact b1.weaken Hhd.out
          rw [HN1.out] at e3
          subst e3
          clear b1 b2 b3
          refine hK' _ _ (B2.out) ?_; clear hK' K'
          repeat (first
            | (refine plan_skip rfl rfl (fun K' hK' => ?_); go_simp; refine hK' _ ?_; clear hK' K')
            | (refine plan_do (v := ?_) rfl rfl (fun w1 hb => ?_) (fun K' hK' => ?_); rotate_left
               · go_simp
                 rfl
               go_simp; refine hK' _ ?_; clear hK' K'))
          refine plan_done ⟨?_, ?_, ?_, ?_, ?_, ?_, ?_, ?_, ?_, ?_, ?_, ?_, ?_, ?_⟩
          rotate_left 12
          · go_simp; (first | rfl | (and_intros <;> rfl))
          · exact ⟨g3, c3, rfl, O2⟩
      · go_wp2_with fail
        refine wp_region_plan (.det 0 (.det 1 (.det 2 (.det 4 (.det 7 (.det 8 (.det 9 (.two 3 (.one 5 (.one 6 (.one 10 (.det 11 (.done))))) 5 (.one 3 (.one 6 (.one 10 (.det 11 (.done))))))))))))) (fun w' => Below (w1).heap.size (w1) w') (fun a a' w' => ∃ x0 x1 x2 x3 x4 x5 x6 x7 x8 x9 x10 x11, a' = ((((((((((((a.put (some 18) x0).put (some 19) x1).put (some 20) x2).put (some 21) x3).put (some 22) x4).put (some 23) x5).put (some 24) x6).put (some 25) x7).put (some 26) x8).put (some 27) x9).put (some 28) x10).put (some 5) x11) ∧ ∃ g0' cx', x11 = .slice (some ⟨g0', 0, none⟩) (xs.length + 1) cx' ∧ Hid (OwnI w' w.heap.size (.slice (some ⟨g0', 0, none⟩) (xs.length + 1) cx') (xs.take j ++ [(k : Int)] ++ xs.drop j))) (by kernel_rfl) (by kernel_rfl) (fun _ _ d _ _ h => by cases d <;> exact h) ((Below.refl _ _).drew) ?_ ?_
        rotate_left
        · rintro a' wa hba ⟨x0, x1, x2, x3, x4, x5, x6, x7, x8, x9, x10, x11, rfl, hP⟩
          obtain ⟨g0', cx', rfl, HN⟩ := hP
          have HS2 := Lib.hid (HS1.out.below hba)
          have HG2 := Lib.hid (HG1.out.trans (grown_below hba (some g)))
          clear hba
          go_simp
          go_wp2_with fail
          go_roundw
          case rel => exact ⟨k + 1, xs.take j ++ [(k : Int)] ++ xs.drop j, g0', cx', by omega, by go_num, by rw [HN1.out], by rw [HN1.out]; exact HN, by show _ = _; rw [HN1.out, HL.out], HA2, HS2, HG2⟩
          case measure => simp [intOf]; omega
        repeat (first
          | (refine plan_skip rfl rfl (fun K' hK' => ?_); go_simp; refine hK' _ ?_; clear hK' K')
          | (refine plan_do (v := ?_) rfl rfl (fun w1 hb => ?_) (fun K' hK' => ?_); rotate_left
             · go_simp
               rfl
             go_simp; refine hK' _ ?_; clear hK' K'))
        generalize hwd : ({ w1 with drawn := w1.drawn + 1 } : World) = wd
        have HBd : Hid (Below w1.heap.size w1 wd) := by rw [← hwd]; exact (Below.refl _ _).drew
        clear hwd
        have HCd : Hid (∀ q (h : q < xs.length), ∀ W, Below w1.heap.size w1 W → W.cell? ⟨g0, q, none⟩ = some (.int .i64 xs[q])) := fun q h => keepC (HCE.out q h)
        have HOW : Hid (∀ c0 W, Below w1.heap.size w1 W → Calls Tryz.prog 185 #[.slice (some ⟨g0, 0, none⟩) j c0] W fun e w' => ∃ v, e = .returned v ∧ OwnI w' W.heap.size v (xs.take j) ∧ Below W.heap.size W w') := fun c0 W hW => by
          have := l01Own_c (xs.take j) g0 0 c0 W (fun q hq => by
            have hq' : q < xs.length := by have := HTL.out; omega
            rw [Nat.zero_add, List.getElem_take]
            exact HCd.out q hq' W hW) (by have := HTL.out; omega)
          rwa [HTL.out] at this
        refine plan_two ?_ ?_
        · refine step_op rfl rfl (fun K' hK' => ?_)
          go_simp
          refine (HOW.out _ _ HBd.out).mono ?_
          rintro e wa ⟨u, rfl, hu, hb⟩
          have Ba := Lib.hid (HBd.out.trans (hb.mono HBd.out.size))
          have Oa := Lib.hid (hu.weaken HBd.out.size)
          clear hu hb
          refine hK' _ _ (Ba.out) ?_; clear hK' K'
          refine plan_one (step_op rfl rfl (fun K' hK' => ?_))
          go_simp
          obtain ⟨wb, hwb⟩ : ∃ wb, wb = wa.alloc (.cells #[.int .i64 (k : Int)] 2) := ⟨_, rfl⟩
          obtain ⟨bN, hbN⟩ : ∃ bN, bN = wa.heap.size := ⟨_, rfl⟩
          have HOb : Hid (OwnI wb w1.heap.size u (xs.take j)) := by rw [hwb]; exact Oa.out.alloc _
          have HNb : Hid (wb.cell? ⟨bN, 0, none⟩ = some (.int .i64 (k : Int))) := by rw [hwb, hbN]; exact cell_alloc_at _ _ _ _ _ rfl
          have HBb : Hid (Below w1.heap.size w1 wb) := by rw [hwb]; exact below_al Ba.out
          rw [← hwb, ← hbN]
          clear hwb hbN
          refine hK' _ _ (HBb.out) ?_; clear hK' K'
          refine plan_one (step_op rfl rfl (fun K' hK' => ?_))
          refine app_int2 (.tmp 21) (.tmp 23) rfl w1.heap.size _ (xs.take j) (k : Int) rfl HOb.out bN 0 rfl HNb.out (by have := HTL.out; omega) (by have := HBb.out.size; omega) (fun v' w' a1 a2 a3 => ?_)
          have B1 := Lib.hid (HBb.out.grown a2 HBb.out.size (fun q hq => (World.ownsRow.lt HOb.out q hq).1))
          have O1 := Lib.hid a1
          clear a1 a2 a3
          refine hK' _ _ (B1.out) ?_; clear hK' K'
          refine plan_one (step_op rfl rfl (fun K' hK' => ?_))
          refine app_intsN (.tmp 24) (.tmp 27) rfl w1.heap.size _ (xs.take j ++ [(k : Int)]) (xs.drop j) rfl O1.out g0 (j) (cx - j) (by rw [HDL.out]; go_simp) (fun q hq => ?_) (by rw [HDL.out, List.length_append, HTL.out]; have := HXL.out; simp; omega) B1.out.size (fun v'' w'' b1 b2 b3 => ?_)
          · have := HDL.out
            have := hcx
            have hq' : j + q < xs.length := by omega
            have hz : j + q = j + q := by omega
            rw [List.getElem_drop]
            first
            | exact HCd.out (j + q) hq' _ B1.out
            | (rw [hz]; exact HCd.out (j + q) hq' _ B1.out)
          have B2 := Lib.hid (B1.out.grown b2 B1.out.size (fun q hq => (World.ownsRow.lt O1.out q hq).1))
          obtain ⟨A3, c3, e3, -⟩ := b1.shape
          obtain ⟨g3, rfl⟩ : ∃ g3, A3 = some ⟨g3, 0, none⟩ := by rw [e3] at b1; exact b1.addr (by rw [HN1.out]; omega)
          have O2 : Hid (OwnI w'' w.heap.size (.slice (some ⟨g3, 0, none⟩) (xs.length + 1) c3) (xs.take j ++ [(k : Int)] ++ xs.drop j)) := by rw [← HN1.out, ← e3]; exact b1.weaken Hhd.out
          rw [HN1.out] at e3
          subst e3
          clear b1 b2 b3
          refine hK' _ _ (B2.out) ?_; clear hK' K'
          repeat (first
            | (refine plan_skip rfl rfl (fun K' hK' => ?_); go_simp; refine hK' _ ?_; clear hK' K')
            | (refine plan_do (v := ?_) rfl rfl (fun w1 hb => ?_) (fun K' hK' => ?_); rotate_left
               · go_simp
                 rfl
               go_simp; refine hK' _ ?_; clear hK' K'))
          refine plan_done ⟨?_, ?_, ?_, ?_, ?_, ?_, ?_, ?_, ?_, ?_, ?_, ?_, ?_, ?_⟩
          rotate_left 12
          · go_simp; (first | rfl | (and_intros <;> rfl))
          · exact ⟨g3, c3, rfl, O2⟩
        · refine step_op rfl rfl (fun K' hK' => ?_)
          go_simp
          obtain ⟨wa, hwa⟩ : ∃ wa, wa = wd.alloc (.cells #[.int .i64 (k : Int)] 2) := ⟨_, rfl⟩
          obtain ⟨bN, hbN⟩ : ∃ bN, bN = wd.heap.size := ⟨_, rfl⟩
          have HNa : Hid (wa.cell? ⟨bN, 0, none⟩ = some (.int .i64 (k : Int))) := by rw [hwa, hbN]; exact cell_alloc_at _ _ _ _ _ rfl
          have Ba : Hid (Below w1.heap.size w1 wa) := by rw [hwa]; exact below_al HBd.out
          rw [← hwa, ← hbN]
          clear hwa hbN
          refine hK' _ _ (Ba.out) ?_; clear hK' K'
          refine plan_one (step_op rfl rfl (fun K' hK' => ?_))
          go_simp
          refine (HOW.out _ _ Ba.out).mono ?_
          rintro e wb ⟨u, rfl, hu, hb⟩
          have HBb := Lib.hid (Ba.out.trans (hb.mono Ba.out.size))
          have HOb := Lib.hid (hu.weaken Ba.out.size)
          have HNb := Lib.hid (keepC HNa.out _ hb)
          clear hu hb
          refine hK' _ _ (HBb.out) ?_; clear hK' K'
          refine plan_one (step_op rfl rfl (fun K' hK' => ?_))
          refine app_int2 (.tmp 21) (.tmp 23) rfl w1.heap.size _ (xs.take j) (k : Int) rfl HOb.out bN 0 rfl HNb.out (by have := HTL.out; omega) (by have := HBb.out.size; omega) (fun v' w' a1 a2 a3 => ?_)
          have B1 := Lib.hid (HBb.out.grown a2 HBb.out.size (fun q hq => (World.ownsRow.lt HOb.out q hq).1))
          have O1 := Lib.hid a1
          clear a1 a2 a3
          refine hK' _ _ (B1.out) ?_; clear hK' K'
          refine plan_one (step_op rfl rfl (fun K' hK' => ?_))
          refine app_intsN (.tmp 24) (.tmp 27) rfl w1.heap.size _ (xs.take j ++ [(k : Int)]) (xs.drop j) rfl O1.out g0 (j) (cx - j) (by rw [HDL.out]; go_simp) (fun q hq => ?_) (by rw [HDL.out, List.length_append, HTL.out]; have := HXL.out; simp; omega) B1.out.size (fun v'' w'' b1 b2 b3 => ?_)
          · have := HDL.out
            have := hcx
            have hq' : j + q < xs.length := by omega
            have hz : j + q = j + q := by omega
            rw [List.getElem_drop]
            first
            | exact HCd.out (j + q) hq' _ B1.out
            | (rw [hz]; exact HCd.out (j + q) hq' _ B1.out)
          have B2 := Lib.hid (B1.out.grown b2 B1.out.size (fun q hq => (World.ownsRow.lt O1.out q hq).1))
          obtain ⟨A3, c3, e3, -⟩ := b1.shape
          obtain ⟨g3, rfl⟩ : ∃ g3, A3 = some ⟨g3, 0, none⟩ := by rw [e3] at b1; exact b1.addr (by rw [HN1.out]; omega)
          have O2 : Hid (OwnI w'' w.heap.size (.slice (some ⟨g3, 0, none⟩) (xs.length + 1) c3) (xs.take j ++ [(k : Int)] ++ xs.drop j)) := by rw [← HN1.out, ← e3]; exact b1.weaken Hhd.out
          rw [HN1.out] at e3
          subst e3
          clear b1 b2 b3
          refine hK' _ _ (B2.out) ?_; clear hK' K'
          repeat (first
            | (refine plan_skip rfl rfl (fun K' hK' => ?_); go_simp; refine hK' _ ?_; clear hK' K')
            | (refine plan_do (v := ?_) rfl rfl (fun w1 hb => ?_) (fun K' hK' => ?_); rotate_left
               · go_simp
                 rfl
               go_simp; refine hK' _ ?_; clear hK' K'))
          refine plan_done ⟨?_, ?_, ?_, ?_, ?_, ?_, ?_, ?_, ?_, ?_, ?_, ?_, ?_, ?_⟩
          rotate_left 12
          · go_simp; (first | rfl | (and_intros <;> rfl))
          · exact ⟨g3, c3, rfl, O2⟩
    · have hkn2 : k = n.toNat := by omega
      have HF := Lib.hid (And.intro HO.out (And.intro (HL.out.trans hkn2) (And.intro HA.out (And.intro HSr.out HG.out))))
      clear hkn2 HO HL HA HSr HG
      go_wp2_with fail
      go_ret
      exact ⟨_, xs, rfl, HF.out⟩

end Go.Proofs.YtkgnejhflnekaaaGreat
