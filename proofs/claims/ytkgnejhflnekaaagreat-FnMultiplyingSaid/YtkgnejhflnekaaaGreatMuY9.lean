/- Contracts and lemmas for the statements of this seat, written for this claim; each theorem states its own conditions. -/
import Derived.Deep.Cut
import Derived.Test.YtkgnejhflnekaaaGreatMuY8
import Derived.Test.YtkgnejhflnekaaaGreatMuK3
import Derived.Test.YtkgnejhflnekaaaGreatMuTg
import Derived.Test.YtkgnejhflnekaaaGreatMuCp
set_option linter.unusedVariables false
set_option linter.unusedSimpArgs false
namespace Go.Proofs.YtkgnejhflnekaaaGreat
open Go.RowKit
attribute [local go_sem] addUpon_value addUpon_skip addUpon_enter
theorem OwnII.toX {w : World} {B : Nat} {v : Value} {L : List (List Int)} (h : OwnII w B v L) : OwnIX w B (fun k => w.heap.size ≤ k) v L := by
  obtain ⟨vs, h1, h2, h3, h4⟩ := h
  have hl : vs.length = L.length := by have := h1.1; omega
  exact ⟨vs, h1, h2, h3, h4, fun k hk hx => by have := (World.ownsRow.lt h1 k hk).2; omega, fun i hi k hk hx => by have := (World.ownsRow.lt (h2 i hi (by omega)) k hk).2; omega⟩
theorem OwnIX.grew {w w1 : World} {B g : Nat} {X : Nat → Prop} {v : Value} {L : List (List Int)} (h : OwnIX w B X v L) (hg : w.grownBy w1 (some g)) (hlt : g < B) : OwnIX w1 B X v L :=
  h.same fun k hB hk _ => hg.block k hk (fun e => by injection e with e; omega)
/-- append of a row that lies in none of the list's blocks -/
theorem wpl_app_rowA {ops : Array Oper} {rest : List Oper} {o : Oper} {a : Act} {W : World} {Q : Exit → Act → World → Prop} (hgd : o.guard = none) (s x : Operand)
    (ho : o.op = .call { callee := .builtin .append, args := #[s, x], argTypes := #[29, 29] }) (B N0 : Nat) (v : Value) (L : List (List Int)) (u : Value) (xs : List Int) (hs : a.eval s = v) (hown : OwnIX W B (fun k => N0 ≤ k) v L)
    (hu : OwnI W N0 u xs) (hBN : B ≤ N0)
    (b off : Nat) (hx : a.eval x = .slice (some ⟨b, off, none⟩) 1 1) (hc : W.cell? ⟨b, off, none⟩ = some u) (hl : L.length ≤ 1000000000000) (hB : B ≤ W.heap.size)
    (h : ∀ v' w', OwnII w' B v' (L ++ [xs]) → W.grownBy w' v.ownBlock → (∀ k, v.ownBlock = some k → B ≤ k) → wpList Tryz.prog ops Q rest (a.put o.dst v') w') : wpList Tryz.prog ops Q (o :: rest) a W := by
  refine wpList_plain hgd fun _ hK => ?_
  obtain ⟨vs, h1, h2, h3, h4, h5, h6⟩ := hown
  have hvl : vs.length = L.length := by have := h1.1; omega
  refine app_gen s x 29 35 (.slice none 0 0) 1 24 ho Tryz.underlying29 infoSl rfl (by decide) B v L.length vs hs h1 ⟨b, off, none⟩ 1 1 [u] hx rfl ?_ ?_ ?_ ?_ hB ?_
  · intro j z hj
    cases j with
    | zero => simp at hj; subst hj; simpa [Addr.add] using hc
    | succ j => simp at hj
  · intro z hz
    simp at hz; subst hz
    obtain ⟨A, cx, rfl, _⟩ := hu.shape
    rfl
  · simp [maxLen]; omega
  · omega
  · intro v' w' k1 k2 k3
    have hub := World.ownsRow.lt hu
    have huv : Apart u v := by
      cases eu : u.ownBlock with
      | none => exact .inl eu
      | some k =>
        right; rw [eu]; intro e
        exact h5 k e.symm (hub k eu).1
    have far : ∀ q (hq : q < vs.length), Apart vs[q] u := fun q hq => by
      cases eq : vs[q].ownBlock with
      | none => exact .inl eq
      | some k =>
        right; rw [eq]; intro e
        exact h6 q hq k eq (hub k e.symm).1
    refine hK _ _ (h v' w' ⟨vs ++ [u], by rw [List.length_append]; exact k1, fun i hi hi' => ?_, fun i j hi hj hij => ?_, fun i hi => ?_⟩ k2 (fun k hk => (World.ownsRow.lt h1 k hk).1))
    · by_cases e : i < vs.length
      · have e' : i < L.length := by omega
        rw [List.getElem_append_left e, List.getElem_append_left e']
        exact (h2 i e e').grown k2 (h4 i e)
      · have ei : i = vs.length := by simp at hi; omega
        subst ei
        rw [List.getElem_append_right (Nat.le_refl _), List.getElem_append_right (by omega)]
        simp only [Nat.sub_self, List.getElem_cons_zero, hvl]
        exact (hu.weaken hBN).grown k2 huv
    · by_cases e : i < vs.length
      · by_cases e2 : j < vs.length
        · rw [List.getElem_append_left e, List.getElem_append_left e2]; exact h3 i j e e2 hij
        · rw [List.getElem_append_left e, List.getElem_append_right (by omega)]
          simp only [show j - vs.length = 0 by simp at hj; omega, List.getElem_cons_zero]
          exact far i e
      · have e2 : j < vs.length := by simp at hi hj; omega
        rw [List.getElem_append_left e2, List.getElem_append_right (by omega)]
        simp only [show i - vs.length = 0 by simp at hi; omega, List.getElem_cons_zero]
        exact (far j e2).symm
    · by_cases e : i < vs.length
      · rw [List.getElem_append_left e]
        exact ((h4 i e).symm.app (fun k hk => (h2 i e (by omega)).blt k hk) k3).symm
      · rw [List.getElem_append_right (by omega)]
        simp only [show i - vs.length = 0 by simp at hi; omega, List.getElem_cons_zero]
        exact (huv.symm.app (hu.blt) k3).symm
/-- where l09Draw stands -/
structure D9 (w wr : World) (g : Nat) (code : List Int) (c : Int) (ts : List T4) (A : Option Addr) (cx gT : Nat) : Prop where
  res : Blk wr w.heap.size [.int .i64 0, .slice none 0 0] 26
  box : Blk wr gT [.int .i64 c, .slice A ts.length cx] 26
  own : OwnT wr (w.heap.size + 1) (.slice A ts.length cx) ts
  src : Src wr g code
  sub : w.grownBy wr (some g)
  hgT : w.heap.size < gT
  hg : g < w.heap.size
  sz : w.heap.size + 1 ≤ wr.heap.size
theorem D9.grow {w wr W : World} {g : Nat} {code : List Int} {c : Int} {ts : List T4} {A : Option Addr} {cx gT : Nat} (h : D9 w wr g code c ts A cx gT) (hS : Src W g code) (hG : wr.grownBy W (some g)) : D9 w W g code c ts A cx gT :=
  ⟨h.res.kept1 hG (by have := h.hg; intro e; injection e with e; omega), h.box.kept1 hG (by have := h.hg; have := h.hgT; intro e; injection e with e; omega), h.own.grew hG (by have := h.hg; omega), hS, h.sub.trans hG, h.hgT, h.hg, Nat.le_trans h.sz hG.size⟩
theorem D9.below {w wr W : World} {g : Nat} {code : List Int} {c : Int} {ts : List T4} {A : Option Addr} {cx gT : Nat} (h : D9 w wr g code c ts A cx gT) (hb : Below wr.heap.size wr W) : D9 w W g code c ts A cx gT :=
  h.grow (h.src.below hb) (grown_below hb _)
theorem D9.app {w wr W w' : World} {g : Nat} {code : List Int} {c : Int} {ts : List T4} {A : Option Addr} {cx gT : Nat} {X : Nat → Prop} {v : Value} {L : List (List Int)} (h : D9 w wr g code c ts A cx gT) (hb : Below wr.heap.size wr W) (hv : OwnIX W (w.heap.size + 1) X v L) (hg : W.grownBy w' v.ownBlock) : D9 w w' g code c ts A cx gT := by
  have h2 := h.below hb
  obtain ⟨vs, h1, -⟩ := hv
  have hr := World.ownsRow.lt h1
  exact ⟨h2.res.kept1 hg (own_ne h1 h2.res (by decide)), h2.box.kept1 hg (own_ne h1 h2.box (by decide)), World.ownsRow.kept h2.own hg (owns_apart h2.own h1 (by decide)), h2.src.app hg (fun k hk => by have := (hr k hk).1; have := h.hg; omega), grown_app h2.sub hg (fun k hk => by have := (hr k hk).1; omega), h.hgT, h.hg, Nat.le_trans h2.sz hg.size⟩
theorem D9.store {w wr : World} {g : Nat} {code : List Int} {c c' : Int} {ts ts' : List T4} {A A' : Option Addr} {cx cx' gT : Nat} (h : D9 w wr g code c ts A cx gT) (hO : OwnT wr (w.heap.size + 1) (.slice A' ts'.length cx') ts') :
    D9 w ((wr.setCell ⟨gT, 0, none⟩ (.int .i64 c')).setCell ⟨gT, 1, none⟩ (.slice A' ts'.length cx')) g code c' ts' A' cx' gT := by
  have hg := h.hg
  have hT := h.hgT
  have hn := own_ne hO h.box (by decide)
  have hb := (h.box.set 0 (.int .i64 c')).set 1 (.slice A' ts'.length cx')
  refine ⟨(h.res.other (a := ⟨gT, 0, none⟩) (by show w.heap.size ≠ gT; omega) _).other (a := ⟨gT, 1, none⟩) (by show w.heap.size ≠ gT; omega) _, hb, ?_, (h.src.store (by show g < gT; omega)).store (by show g < gT; omega), grown_store (grown_store h.sub (by show w.heap.size ≤ gT; omega)) (by show w.heap.size ≤ gT; omega), h.hgT, h.hg, by simpa [World.setCell] using h.sz⟩
  exact World.ownsRow.kept (row := some gT) (World.ownsRow.kept (row := some gT) hO (grownBy_store _ _ _ _) (.inr hn)) (grownBy_store _ _ _ _) (.inr hn)
def wiresB : ByteArray := ⟨#[119, 105, 114, 101, 115]⟩
theorem wires_len : (rdT (namedB wiresB)).length = 4 := by decide +kernel
theorem OwnI.cell4 {w : World} {B gu cx : Nat} {a0 a1 a2 a3 : Int} (h : OwnI w B (.slice (some ⟨gu, 0, none⟩) 4 cx) [a0, a1, a2, a3]) :
    w.cell? ⟨gu, 0, none⟩ = some (.int .i64 a0) ∧ w.cell? ⟨gu, 1, none⟩ = some (.int .i64 a1) ∧ w.cell? ⟨gu, 2, none⟩ = some (.int .i64 a2) ∧ w.cell? ⟨gu, 3, none⟩ = some (.int .i64 a3) := by
  have q : ∀ j (hj : j < 4), w.cell? ⟨gu, j, none⟩ = some (.int .i64 ([a0, a1, a2, a3][j])) := fun j hj => by
    obtain ⟨g', e, -, -, hc, -⟩ := h.at_ j hj
    injection e with e
    injection e with e
    subst e
    exact hc
  exact ⟨q 0 (by omega), q 1 (by omega), q 2 (by omega), q 3 (by omega)⟩
def Row4 (n : Nat) (row : List Int) : Prop := row.length = 4 ∧ ∀ x ∈ row, 0 ≤ x ∧ x < (n : Int)
theorem blocks_of {n : Nat} {L : List (List Int)} (h : L.length = n) (h4 : ∀ r ∈ L, Row4 n r) : Blocks n L :=
  ⟨h, fun k hk => ⟨(h4 _ (List.getElem_mem hk)).1, fun j hj => (h4 _ (List.getElem_mem hk)).2 _ (List.getElem_mem hj)⟩⟩
def Draw9 (w : World) (g : Nat) (code : List Int) (e : Ending) (w' : World) : Prop :=
  ∃ c ts A cx v L, e = .returned (.tuple #[.agg #[.int .i64 c, .slice A ts.length cx], v]) ∧ OwnT w' (w.heap.size + 1) (.slice A ts.length cx) ts ∧ OwnII w' (w.heap.size + 1) v L ∧ SmallK c ts ∧ Blocks ts.length L ∧ Src w' g code ∧ w.grownBy w' (some g)
set_option maxRecDepth 100000 in
set_option maxHeartbeats 4000000 in
theorem l09Draw_c (g : Nat) (code : List Int) (w : World) (h : Src w g code) :
    Calls Tryz.prog 105 #[.pointer (some ⟨g, 0, none⟩)] w (Draw9 w g code) := by
  have HL := Lib.hid h.lt
  have HS := Lib.hid h
  clear h
  go_enter Tryz.func105, Tryz.ntmps105
  go_wp2_with fail
  refine (l01Small_c g code _ (HS.out.alloc _)).mono ?_
  rintro e w1 ⟨c, ts, A, cx, rfl, hO, hK, S, G⟩
  have HK := Lib.hid hK
  have HSz : Hid (w.heap.size + 1 ≤ w1.heap.size) := by have := G.size; rw [World.size_alloc] at this; exact this
  have HQ0 : Hid (D9 w (w1.alloc (.cells #[.int .i64 c, .slice A ts.length cx] 26)) g code c ts A cx w1.heap.size) :=
    ⟨((Blk.newA w _ _).kept1 G (by have := HL.out; intro e; injection e with e; omega)).alloc _, Blk.newA _ _ _, (by rw [World.size_alloc] at hO; exact hO.alloc _), S.alloc _, (World.grownBy_alloc w _ _).trans (G.trans (World.grownBy_alloc _ _ _)), (by have := HSz.out; omega), HL.out, by rw [World.size_alloc]; have := HSz.out; omega⟩
  have hN : ts.length ≤ 16 := hK.2.2.2
  clear hO hK S G HS
  go_wp2_with fail
  obtain ⟨gT, hgT⟩ : ∃ gT, gT = w1.heap.size := ⟨_, rfl⟩
  have HV0 : Hid (OwnII ((w1.alloc (.cells #[.int .i64 c, .slice A ts.length cx] 26)).alloc (.cells #[] 35)) (w.heap.size + 1) (.slice (some ⟨w1.heap.size + 1, 0, none⟩) 0 0) []) := OwnII.empty (by simp) (by have := HSz.out; simp; omega)
  have HQ1 := Lib.hid (HQ0.out.below (below_al (o := .cells #[] 35) (Below.refl _ _)))
  rw [← hgT] at HQ1 HV0
  rw [← hgT]
  clear hgT HQ0
  go_loopw [6, 7] (fun v i wr => ∃ (k : Nat) (L : List (List Int)), k ≤ ts.length ∧ i = .int .i64 (k : Nat) ∧ Hid (D9 w wr g code c ts A cx gT) ∧ Hid (OwnII wr (w.heap.size + 1) v L) ∧ Hid (L.length = k) ∧ Hid (∀ r ∈ L, Row4 ts.length r)) (fun _ i _ => ts.length - (intOf i).toNat)
  case atStart => exact ⟨0, [], by omega, rfl, HQ1, HV0, rfl, fun r hr => by simp at hr⟩
  case round =>
    clear HQ1 HV0
    obtain ⟨k, L, hk, rfl, HQ, HV, HLn, HA⟩ := hrel
    obtain ⟨Av, cv, rfl, -⟩ := HV.out.rows
    by_cases hkn : k < ts.length
    · have hk' : (k : Int) < (ts.length : Int) := by omega
      go_wp2_with fail
      refine (l01Next_c g code _ _ HQ.out.src).mono ?_
      rintro e wa1 ⟨r1, rfl, a, _, b, S, G⟩
      replace HQ := Lib.hid (HQ.out.grow S G)
      replace HV := Lib.hid (HV.out.grew G (by have := HL.out; omega))
      have R1 := Lib.hid (And.intro a (b (by omega)))
      clear S G a b
      go_wp2_with fail
      refine (l01Next_c g code _ _ HQ.out.src).mono ?_
      rintro e wa2 ⟨r2, rfl, a, _, b, S, G⟩
      replace HQ := Lib.hid (HQ.out.grow S G)
      replace HV := Lib.hid (HV.out.grew G (by have := HL.out; omega))
      have R2 := Lib.hid (And.intro a (b (by omega)))
      clear S G a b
      go_wp2_with fail
      refine (l01Next_c g code _ _ HQ.out.src).mono ?_
      rintro e wa3 ⟨r3, rfl, a, _, b, S, G⟩
      replace HQ := Lib.hid (HQ.out.grow S G)
      replace HV := Lib.hid (HV.out.grew G (by have := HL.out; omega))
      have R3 := Lib.hid (And.intro a (b (by omega)))
      clear S G a b
      go_wp2_with fail
      refine (l01Next_c g code _ _ HQ.out.src).mono ?_
      rintro e wa4 ⟨r4, rfl, a, _, b, S, G⟩
      replace HQ := Lib.hid (HQ.out.grow S G)
      replace HV := Lib.hid (HV.out.grew G (by have := HL.out; omega))
      have R4 := Lib.hid (And.intro a (b (by omega)))
      clear S G a b
      go_wp2_with fail
      obtain ⟨N0, hN0⟩ : ∃ N0, N0 = wa4.heap.size := ⟨_, rfl⟩
      have HN0 : Hid (w.heap.size + 1 ≤ N0) := by rw [hN0]; exact HQ.out.sz
      have HX0 : Hid (OwnIX (wa4.alloc (.cells #[.int .i64 r1, .int .i64 r2, .int .i64 r3, .int .i64 r4] 2)) (w.heap.size + 1) (fun q => N0 ≤ q) (.slice Av L.length cv) L) := by rw [hN0]; exact HV.out.toX.below (below_al (Below.refl _ _))
      have HU0 : Hid (OwnI (wa4.alloc (.cells #[.int .i64 r1, .int .i64 r2, .int .i64 r3, .int .i64 r4] 2)) N0 (.slice (some ⟨N0, 0, none⟩) 4 4) [r1, r2, r3, r4]) := by rw [hN0]; exact OwnI.made wa4 _ #[.int .i64 r1, .int .i64 r2, .int .i64 r3, .int .i64 r4] [r1, r2, r3, r4] rfl (Nat.le_refl _) (by simp)
      have HR0 : Hid (Row4 ts.length [r1, r2, r3, r4]) := ⟨rfl, fun x hx => by
        simp only [List.mem_cons, List.not_mem_nil, or_false] at hx
        rcases hx with rfl | rfl | rfl | rfl
        · exact R1.out
        · exact R2.out
        · exact R3.out
        · exact R4.out⟩
      replace HQ := Lib.hid (HQ.out.below (below_al (o := .cells #[.int .i64 r1, .int .i64 r2, .int .i64 r3, .int .i64 r4] 2) (Below.refl wa4.heap.size wa4)))
      rw [← hN0]
      clear hN0 R1 R2 R3 R4 HV
      obtain ⟨wo, rfl⟩ : ∃ wo, wo = wr := ⟨wr, rfl⟩
      go_loopw [8, 9] (fun u i wr => ∃ (q gu : Nat) (row : List Int), q ≤ 30 ∧ i = .int .i64 (q : Nat) ∧ u = .slice (some ⟨gu, 0, none⟩) 4 4 ∧ Hid (D9 w wr g code c ts A cx gT) ∧ Hid (OwnIX wr (w.heap.size + 1) (fun q => N0 ≤ q) (.slice Av L.length cv) L) ∧ Hid (OwnI wr N0 (.slice (some ⟨gu, 0, none⟩) 4 4) row) ∧ Hid (Row4 ts.length row)) (fun _ i _ => 30 - (intOf i).toNat)
      case atStart => exact ⟨0, N0, _, by omega, rfl, rfl, HQ, HX0, HU0, HR0⟩
      case round =>
        clear HQ HX0 HU0 HR0
        obtain ⟨q, gu, row, hq, rfl, rfl, HQ, HX, HU, HR⟩ := hrel
        by_cases hq30 : q < 30
        · have hq30' : (q : Int) < 30 := by omega
          go_wp2_with fail
          refine (l01Next_c g code _ _ HQ.out.src).mono ?_
          rintro e wz ⟨r5, rfl, a, _, _, S, G⟩
          replace HQ := Lib.hid (HQ.out.grow S G)
          replace HX := Lib.hid (HX.out.grew G (by have := HL.out; omega))
          replace HU := Lib.hid (HU.out.grew G (by have := HL.out; have := HN0.out; omega))
          clear S G
          by_cases h5 : 0 < r5
          · obtain ⟨a0, a1, a2, a3, rfl⟩ : ∃ a0 a1 a2 a3, row = [a0, a1, a2, a3] := by
              have := HR.out.1
              match row, this with
              | [a0, a1, a2, a3], _ => exact ⟨a0, a1, a2, a3, rfl⟩
            have i0 := HR.out.2 a0 (by simp)
            have i1 := HR.out.2 a1 (by simp)
            have i2 := HR.out.2 a2 (by simp)
            have i3 := HR.out.2 a3 (by simp)
            obtain ⟨c0, c1, c2, c3⟩ := HU.out.cell4
            have q0 := keepC c0
            have q1 := keepC c1
            have q2 := keepC c2
            have q3 := keepC c3
            have d0 := HQ.out.box.cell 0 (by simp)
            have d1 := HQ.out.box.cell 1 (by simp)
            simp only [List.getElem_cons_zero, List.getElem_cons_succ] at d0 d1
            have y0 := keepC d0
            have y1 := keepC d1
            have HTw := Lib.hid HQ.out.own.cells
            have E1 := Lib.hid (fun w h => l09Beside_c c ts A cx a0 a1 w h (by omega) i0 i1)
            have E2 := Lib.hid (fun w h => l09Beside_c c ts A cx a2 a3 w h (by omega) i2 i3)
            have E3 := Lib.hid (fun w h => l09Below_c c ts A cx a0 a2 w h (by omega) i0 i2)
            have E4 := Lib.hid (fun w h => l09Below_c c ts A cx a1 a3 w h (by omega) i1 i3)
            clear c0 c1 c2 c3 d0 d1 i0 i1 i2 i3
            generalize meetE ts a0 a1 = p1 at *
            generalize meetE ts a2 a3 = p2 at *
            generalize meetS ts a0 a2 = p3 at *
            generalize meetS ts a1 a3 = p4 at *
            obtain ⟨row, hrow⟩ : ∃ row, row = [a0, a1, a2, a3] := ⟨_, rfl⟩
            rw [← hrow] at HU HR
            clear hrow
            cases p1
            · go_wp2_with fail
              refine wp_region_add (fun w' => Below (wz).heap.size (wz) w') (by kernel_rfl) (by kernel_rfl) ((Below.refl _ _).drew) ?_
              repeat (first
                | (refine add_skip rfl (fun K' hK' => ?_); go_simp; refine hK' _ ?_; clear hK' K')
                | (refine add_do (v := ?_) rfl (fun w1 hb => ?_) (fun K' hK' => ?_); rotate_left
                   · go_simp
                     first
                     | (with_reducible exact rfl)
                     | (with_reducible exact ⟨rfl, hb⟩)
                     | (with_reducible exact (addCall (E1.out w1 (HTw.out.below hb)) hb).2)
                     | (with_reducible exact (addCall (E2.out w1 (HTw.out.below hb)) hb).2)
                     | (with_reducible exact (addCall (E3.out w1 (HTw.out.below hb)) hb).2)
                     | (with_reducible exact (addCall (E4.out w1 (HTw.out.below hb)) hb).2)
                     | exact (addCall (E1.out w1 (HTw.out.below hb)) hb).2
                     | exact (addCall (E2.out w1 (HTw.out.below hb)) hb).2
                     | exact (addCall (E3.out w1 (HTw.out.below hb)) hb).2
                     | exact (addCall (E4.out w1 (HTw.out.below hb)) hb).2
                     | exact rfl
                     | exact ⟨rfl, hb⟩
                   go_simp; refine hK' _ ?_; clear hK' K'))
              refine add_nil ?_
              intro wa hba
              replace HQ := Lib.hid (HQ.out.below hba)
              replace HX := Lib.hid (HX.out.below hba)
              replace HU := Lib.hid (HU.out.below hba)
              have HNz : Hid (N0 ≤ wa.heap.size) := by have := World.ownsRow.lt HU.out gu rfl; show _ ≤ _; omega
              clear hba q0 q1 q2 q3 y0 y1 E1 E2 E3 E4 HTw
              go_wp2_with fail
              refine (l01Next_c g code _ _ HQ.out.src).mono ?_
              rintro e wb1 ⟨r6, rfl, a, _, b, S, G⟩
              replace HQ := Lib.hid (HQ.out.grow S G)
              replace HX := Lib.hid (HX.out.grew G (by have := HL.out; omega))
              replace HNz := Lib.hid (Nat.le_trans HNz.out G.size)
              have R6 := Lib.hid (And.intro a (b (by omega)))
              clear S G a b
              go_wp2_with fail
              refine (l01Next_c g code _ _ HQ.out.src).mono ?_
              rintro e wb2 ⟨r7, rfl, a, _, b, S, G⟩
              replace HQ := Lib.hid (HQ.out.grow S G)
              replace HX := Lib.hid (HX.out.grew G (by have := HL.out; omega))
              replace HNz := Lib.hid (Nat.le_trans HNz.out G.size)
              have R7 := Lib.hid (And.intro a (b (by omega)))
              clear S G a b
              go_wp2_with fail
              refine (l01Next_c g code _ _ HQ.out.src).mono ?_
              rintro e wb3 ⟨r8, rfl, a, _, b, S, G⟩
              replace HQ := Lib.hid (HQ.out.grow S G)
              replace HX := Lib.hid (HX.out.grew G (by have := HL.out; omega))
              replace HNz := Lib.hid (Nat.le_trans HNz.out G.size)
              have R8 := Lib.hid (And.intro a (b (by omega)))
              clear S G a b
              go_wp2_with fail
              refine (l01Next_c g code _ _ HQ.out.src).mono ?_
              rintro e wb4 ⟨r9, rfl, a, _, b, S, G⟩
              replace HQ := Lib.hid (HQ.out.grow S G)
              replace HX := Lib.hid (HX.out.grew G (by have := HL.out; omega))
              replace HNz := Lib.hid (Nat.le_trans HNz.out G.size)
              have R9 := Lib.hid (And.intro a (b (by omega)))
              clear S G a b
              go_wp2_with fail
              obtain ⟨N1, hN1⟩ : ∃ N1, N1 = wb4.heap.size := ⟨_, rfl⟩
              have HX2 := Lib.hid (HX.out.below (below_al (o := .cells #[.int .i64 r6, .int .i64 r7, .int .i64 r8, .int .i64 r9] 2) (Below.refl _ _)))
              have HU2 : Hid (OwnI (wb4.alloc (.cells #[.int .i64 r6, .int .i64 r7, .int .i64 r8, .int .i64 r9] 2)) N0 (.slice (some ⟨N1, 0, none⟩) 4 4) [r6, r7, r8, r9]) := by rw [hN1]; exact OwnI.made wb4 _ #[.int .i64 r6, .int .i64 r7, .int .i64 r8, .int .i64 r9] [r6, r7, r8, r9] rfl HNz.out (by simp)
              have HR2 : Hid (Row4 ts.length [r6, r7, r8, r9]) := ⟨rfl, fun x hx => by
                simp only [List.mem_cons, List.not_mem_nil, or_false] at hx
                rcases hx with rfl | rfl | rfl | rfl
                · exact R6.out
                · exact R7.out
                · exact R8.out
                · exact R9.out⟩
              have HQ2 := Lib.hid (HQ.out.below (below_al (o := .cells #[.int .i64 r6, .int .i64 r7, .int .i64 r8, .int .i64 r9] 2) (Below.refl wb4.heap.size wb4)))
              rw [← hN1]
              clear hN1
              go_roundw
              case rel => exact ⟨q + 1, N1, _, by omega, by go_num, rfl, HQ2, HX2, HU2, HR2⟩
              case measure => simp [intOf]; omega
            · cases p2
              · go_wp2_with fail
                refine wp_region_add (fun w' => Below (wz).heap.size (wz) w') (by kernel_rfl) (by kernel_rfl) ((Below.refl _ _).drew) ?_
                repeat (first
                  | (refine add_skip rfl (fun K' hK' => ?_); go_simp; refine hK' _ ?_; clear hK' K')
                  | (refine add_do (v := ?_) rfl (fun w1 hb => ?_) (fun K' hK' => ?_); rotate_left
                     · go_simp
                       first
                       | (with_reducible exact rfl)
                       | (with_reducible exact ⟨rfl, hb⟩)
                       | (with_reducible exact (addCall (E1.out w1 (HTw.out.below hb)) hb).2)
                       | (with_reducible exact (addCall (E2.out w1 (HTw.out.below hb)) hb).2)
                       | (with_reducible exact (addCall (E3.out w1 (HTw.out.below hb)) hb).2)
                       | (with_reducible exact (addCall (E4.out w1 (HTw.out.below hb)) hb).2)
                       | exact (addCall (E1.out w1 (HTw.out.below hb)) hb).2
                       | exact (addCall (E2.out w1 (HTw.out.below hb)) hb).2
                       | exact (addCall (E3.out w1 (HTw.out.below hb)) hb).2
                       | exact (addCall (E4.out w1 (HTw.out.below hb)) hb).2
                       | exact rfl
                       | exact ⟨rfl, hb⟩
                     go_simp; refine hK' _ ?_; clear hK' K'))
                refine add_nil ?_
                intro wa hba
                replace HQ := Lib.hid (HQ.out.below hba)
                replace HX := Lib.hid (HX.out.below hba)
                replace HU := Lib.hid (HU.out.below hba)
                have HNz : Hid (N0 ≤ wa.heap.size) := by have := World.ownsRow.lt HU.out gu rfl; show _ ≤ _; omega
                clear hba q0 q1 q2 q3 y0 y1 E1 E2 E3 E4 HTw
                go_wp2_with fail
                refine (l01Next_c g code _ _ HQ.out.src).mono ?_
                rintro e wb1 ⟨r6, rfl, a, _, b, S, G⟩
                replace HQ := Lib.hid (HQ.out.grow S G)
                replace HX := Lib.hid (HX.out.grew G (by have := HL.out; omega))
                replace HNz := Lib.hid (Nat.le_trans HNz.out G.size)
                have R6 := Lib.hid (And.intro a (b (by omega)))
                clear S G a b
                go_wp2_with fail
                refine (l01Next_c g code _ _ HQ.out.src).mono ?_
                rintro e wb2 ⟨r7, rfl, a, _, b, S, G⟩
                replace HQ := Lib.hid (HQ.out.grow S G)
                replace HX := Lib.hid (HX.out.grew G (by have := HL.out; omega))
                replace HNz := Lib.hid (Nat.le_trans HNz.out G.size)
                have R7 := Lib.hid (And.intro a (b (by omega)))
                clear S G a b
                go_wp2_with fail
                refine (l01Next_c g code _ _ HQ.out.src).mono ?_
                rintro e wb3 ⟨r8, rfl, a, _, b, S, G⟩
                replace HQ := Lib.hid (HQ.out.grow S G)
                replace HX := Lib.hid (HX.out.grew G (by have := HL.out; omega))
                replace HNz := Lib.hid (Nat.le_trans HNz.out G.size)
                have R8 := Lib.hid (And.intro a (b (by omega)))
                clear S G a b
                go_wp2_with fail
                refine (l01Next_c g code _ _ HQ.out.src).mono ?_
                rintro e wb4 ⟨r9, rfl, a, _, b, S, G⟩
                replace HQ := Lib.hid (HQ.out.grow S G)
                replace HX := Lib.hid (HX.out.grew G (by have := HL.out; omega))
                replace HNz := Lib.hid (Nat.le_trans HNz.out G.size)
                have R9 := Lib.hid (And.intro a (b (by omega)))
                clear S G a b
                go_wp2_with fail
                obtain ⟨N1, hN1⟩ : ∃ N1, N1 = wb4.heap.size := ⟨_, rfl⟩
                have HX2 := Lib.hid (HX.out.below (below_al (o := .cells #[.int .i64 r6, .int .i64 r7, .int .i64 r8, .int .i64 r9] 2) (Below.refl _ _)))
                have HU2 : Hid (OwnI (wb4.alloc (.cells #[.int .i64 r6, .int .i64 r7, .int .i64 r8, .int .i64 r9] 2)) N0 (.slice (some ⟨N1, 0, none⟩) 4 4) [r6, r7, r8, r9]) := by rw [hN1]; exact OwnI.made wb4 _ #[.int .i64 r6, .int .i64 r7, .int .i64 r8, .int .i64 r9] [r6, r7, r8, r9] rfl HNz.out (by simp)
                have HR2 : Hid (Row4 ts.length [r6, r7, r8, r9]) := ⟨rfl, fun x hx => by
                  simp only [List.mem_cons, List.not_mem_nil, or_false] at hx
                  rcases hx with rfl | rfl | rfl | rfl
                  · exact R6.out
                  · exact R7.out
                  · exact R8.out
                  · exact R9.out⟩
                have HQ2 := Lib.hid (HQ.out.below (below_al (o := .cells #[.int .i64 r6, .int .i64 r7, .int .i64 r8, .int .i64 r9] 2) (Below.refl wb4.heap.size wb4)))
                rw [← hN1]
                clear hN1
                go_roundw
                case rel => exact ⟨q + 1, N1, _, by omega, by go_num, rfl, HQ2, HX2, HU2, HR2⟩
                case measure => simp [intOf]; omega
              · cases p3
                · go_wp2_with fail
                  refine wp_region_add (fun w' => Below (wz).heap.size (wz) w') (by kernel_rfl) (by kernel_rfl) ((Below.refl _ _).drew) ?_
                  repeat (first
                    | (refine add_skip rfl (fun K' hK' => ?_); go_simp; refine hK' _ ?_; clear hK' K')
                    | (refine add_do (v := ?_) rfl (fun w1 hb => ?_) (fun K' hK' => ?_); rotate_left
                       · go_simp
                         first
                         | (with_reducible exact rfl)
                         | (with_reducible exact ⟨rfl, hb⟩)
                         | (with_reducible exact (addCall (E1.out w1 (HTw.out.below hb)) hb).2)
                         | (with_reducible exact (addCall (E2.out w1 (HTw.out.below hb)) hb).2)
                         | (with_reducible exact (addCall (E3.out w1 (HTw.out.below hb)) hb).2)
                         | (with_reducible exact (addCall (E4.out w1 (HTw.out.below hb)) hb).2)
                         | exact (addCall (E1.out w1 (HTw.out.below hb)) hb).2
                         | exact (addCall (E2.out w1 (HTw.out.below hb)) hb).2
                         | exact (addCall (E3.out w1 (HTw.out.below hb)) hb).2
                         | exact (addCall (E4.out w1 (HTw.out.below hb)) hb).2
                         | exact rfl
                         | exact ⟨rfl, hb⟩
                       go_simp; refine hK' _ ?_; clear hK' K'))
                  refine add_nil ?_
                  intro wa hba
                  replace HQ := Lib.hid (HQ.out.below hba)
                  replace HX := Lib.hid (HX.out.below hba)
                  replace HU := Lib.hid (HU.out.below hba)
                  have HNz : Hid (N0 ≤ wa.heap.size) := by have := World.ownsRow.lt HU.out gu rfl; show _ ≤ _; omega
                  clear hba q0 q1 q2 q3 y0 y1 E1 E2 E3 E4 HTw
                  go_wp2_with fail
                  refine (l01Next_c g code _ _ HQ.out.src).mono ?_
                  rintro e wb1 ⟨r6, rfl, a, _, b, S, G⟩
                  replace HQ := Lib.hid (HQ.out.grow S G)
                  replace HX := Lib.hid (HX.out.grew G (by have := HL.out; omega))
                  replace HNz := Lib.hid (Nat.le_trans HNz.out G.size)
                  have R6 := Lib.hid (And.intro a (b (by omega)))
                  clear S G a b
                  go_wp2_with fail
                  refine (l01Next_c g code _ _ HQ.out.src).mono ?_
                  rintro e wb2 ⟨r7, rfl, a, _, b, S, G⟩
                  replace HQ := Lib.hid (HQ.out.grow S G)
                  replace HX := Lib.hid (HX.out.grew G (by have := HL.out; omega))
                  replace HNz := Lib.hid (Nat.le_trans HNz.out G.size)
                  have R7 := Lib.hid (And.intro a (b (by omega)))
                  clear S G a b
                  go_wp2_with fail
                  refine (l01Next_c g code _ _ HQ.out.src).mono ?_
                  rintro e wb3 ⟨r8, rfl, a, _, b, S, G⟩
                  replace HQ := Lib.hid (HQ.out.grow S G)
                  replace HX := Lib.hid (HX.out.grew G (by have := HL.out; omega))
                  replace HNz := Lib.hid (Nat.le_trans HNz.out G.size)
                  have R8 := Lib.hid (And.intro a (b (by omega)))
                  clear S G a b
                  go_wp2_with fail
                  refine (l01Next_c g code _ _ HQ.out.src).mono ?_
                  rintro e wb4 ⟨r9, rfl, a, _, b, S, G⟩
                  replace HQ := Lib.hid (HQ.out.grow S G)
                  replace HX := Lib.hid (HX.out.grew G (by have := HL.out; omega))
                  replace HNz := Lib.hid (Nat.le_trans HNz.out G.size)
                  have R9 := Lib.hid (And.intro a (b (by omega)))
                  clear S G a b
                  go_wp2_with fail
                  obtain ⟨N1, hN1⟩ : ∃ N1, N1 = wb4.heap.size := ⟨_, rfl⟩
                  have HX2 := Lib.hid (HX.out.below (below_al (o := .cells #[.int .i64 r6, .int .i64 r7, .int .i64 r8, .int .i64 r9] 2) (Below.refl _ _)))
                  have HU2 : Hid (OwnI (wb4.alloc (.cells #[.int .i64 r6, .int .i64 r7, .int .i64 r8, .int .i64 r9] 2)) N0 (.slice (some ⟨N1, 0, none⟩) 4 4) [r6, r7, r8, r9]) := by rw [hN1]; exact OwnI.made wb4 _ #[.int .i64 r6, .int .i64 r7, .int .i64 r8, .int .i64 r9] [r6, r7, r8, r9] rfl HNz.out (by simp)
                  have HR2 : Hid (Row4 ts.length [r6, r7, r8, r9]) := ⟨rfl, fun x hx => by
                    simp only [List.mem_cons, List.not_mem_nil, or_false] at hx
                    rcases hx with rfl | rfl | rfl | rfl
                    · exact R6.out
                    · exact R7.out
                    · exact R8.out
                    · exact R9.out⟩
                  have HQ2 := Lib.hid (HQ.out.below (below_al (o := .cells #[.int .i64 r6, .int .i64 r7, .int .i64 r8, .int .i64 r9] 2) (Below.refl wb4.heap.size wb4)))
                  rw [← hN1]
                  clear hN1
                  go_roundw
                  case rel => exact ⟨q + 1, N1, _, by omega, by go_num, rfl, HQ2, HX2, HU2, HR2⟩
                  case measure => simp [intOf]; omega
                · cases p4
                  · go_wp2_with fail
                    refine wp_region_add (fun w' => Below (wz).heap.size (wz) w') (by kernel_rfl) (by kernel_rfl) ((Below.refl _ _).drew) ?_
                    repeat (first
                      | (refine add_skip rfl (fun K' hK' => ?_); go_simp; refine hK' _ ?_; clear hK' K')
                      | (refine add_do (v := ?_) rfl (fun w1 hb => ?_) (fun K' hK' => ?_); rotate_left
                         · go_simp
                           first
                           | (with_reducible exact rfl)
                           | (with_reducible exact ⟨rfl, hb⟩)
                           | (with_reducible exact (addCall (E1.out w1 (HTw.out.below hb)) hb).2)
                           | (with_reducible exact (addCall (E2.out w1 (HTw.out.below hb)) hb).2)
                           | (with_reducible exact (addCall (E3.out w1 (HTw.out.below hb)) hb).2)
                           | (with_reducible exact (addCall (E4.out w1 (HTw.out.below hb)) hb).2)
                           | exact (addCall (E1.out w1 (HTw.out.below hb)) hb).2
                           | exact (addCall (E2.out w1 (HTw.out.below hb)) hb).2
                           | exact (addCall (E3.out w1 (HTw.out.below hb)) hb).2
                           | exact (addCall (E4.out w1 (HTw.out.below hb)) hb).2
                           | exact rfl
                           | exact ⟨rfl, hb⟩
                         go_simp; refine hK' _ ?_; clear hK' K'))
                    refine add_nil ?_
                    intro wa hba
                    replace HQ := Lib.hid (HQ.out.below hba)
                    replace HX := Lib.hid (HX.out.below hba)
                    replace HU := Lib.hid (HU.out.below hba)
                    have HNz : Hid (N0 ≤ wa.heap.size) := by have := World.ownsRow.lt HU.out gu rfl; show _ ≤ _; omega
                    clear hba q0 q1 q2 q3 y0 y1 E1 E2 E3 E4 HTw
                    go_wp2_with fail
                    refine (l01Next_c g code _ _ HQ.out.src).mono ?_
                    rintro e wb1 ⟨r6, rfl, a, _, b, S, G⟩
                    replace HQ := Lib.hid (HQ.out.grow S G)
                    replace HX := Lib.hid (HX.out.grew G (by have := HL.out; omega))
                    replace HNz := Lib.hid (Nat.le_trans HNz.out G.size)
                    have R6 := Lib.hid (And.intro a (b (by omega)))
                    clear S G a b
                    go_wp2_with fail
                    refine (l01Next_c g code _ _ HQ.out.src).mono ?_
                    rintro e wb2 ⟨r7, rfl, a, _, b, S, G⟩
                    replace HQ := Lib.hid (HQ.out.grow S G)
                    replace HX := Lib.hid (HX.out.grew G (by have := HL.out; omega))
                    replace HNz := Lib.hid (Nat.le_trans HNz.out G.size)
                    have R7 := Lib.hid (And.intro a (b (by omega)))
                    clear S G a b
                    go_wp2_with fail
                    refine (l01Next_c g code _ _ HQ.out.src).mono ?_
                    rintro e wb3 ⟨r8, rfl, a, _, b, S, G⟩
                    replace HQ := Lib.hid (HQ.out.grow S G)
                    replace HX := Lib.hid (HX.out.grew G (by have := HL.out; omega))
                    replace HNz := Lib.hid (Nat.le_trans HNz.out G.size)
                    have R8 := Lib.hid (And.intro a (b (by omega)))
                    clear S G a b
                    go_wp2_with fail
                    refine (l01Next_c g code _ _ HQ.out.src).mono ?_
                    rintro e wb4 ⟨r9, rfl, a, _, b, S, G⟩
                    replace HQ := Lib.hid (HQ.out.grow S G)
                    replace HX := Lib.hid (HX.out.grew G (by have := HL.out; omega))
                    replace HNz := Lib.hid (Nat.le_trans HNz.out G.size)
                    have R9 := Lib.hid (And.intro a (b (by omega)))
                    clear S G a b
                    go_wp2_with fail
                    obtain ⟨N1, hN1⟩ : ∃ N1, N1 = wb4.heap.size := ⟨_, rfl⟩
                    have HX2 := Lib.hid (HX.out.below (below_al (o := .cells #[.int .i64 r6, .int .i64 r7, .int .i64 r8, .int .i64 r9] 2) (Below.refl _ _)))
                    have HU2 : Hid (OwnI (wb4.alloc (.cells #[.int .i64 r6, .int .i64 r7, .int .i64 r8, .int .i64 r9] 2)) N0 (.slice (some ⟨N1, 0, none⟩) 4 4) [r6, r7, r8, r9]) := by rw [hN1]; exact OwnI.made wb4 _ #[.int .i64 r6, .int .i64 r7, .int .i64 r8, .int .i64 r9] [r6, r7, r8, r9] rfl HNz.out (by simp)
                    have HR2 : Hid (Row4 ts.length [r6, r7, r8, r9]) := ⟨rfl, fun x hx => by
                      simp only [List.mem_cons, List.not_mem_nil, or_false] at hx
                      rcases hx with rfl | rfl | rfl | rfl
                      · exact R6.out
                      · exact R7.out
                      · exact R8.out
                      · exact R9.out⟩
                    have HQ2 := Lib.hid (HQ.out.below (below_al (o := .cells #[.int .i64 r6, .int .i64 r7, .int .i64 r8, .int .i64 r9] 2) (Below.refl wb4.heap.size wb4)))
                    rw [← hN1]
                    clear hN1
                    go_roundw
                    case rel => exact ⟨q + 1, N1, _, by omega, by go_num, rfl, HQ2, HX2, HU2, HR2⟩
                    case measure => simp [intOf]; omega
                  · go_wp2_with fail
                    refine wp_region_add (fun w' => Below (wz).heap.size (wz) w') (by kernel_rfl) (by kernel_rfl) ((Below.refl _ _).drew) ?_
                    repeat (first
                      | (refine add_skip rfl (fun K' hK' => ?_); go_simp; refine hK' _ ?_; clear hK' K')
                      | (refine add_do (v := ?_) rfl (fun w1 hb => ?_) (fun K' hK' => ?_); rotate_left
                         · go_simp
                           first
                           | (with_reducible exact rfl)
                           | (with_reducible exact ⟨rfl, hb⟩)
                           | (with_reducible exact (addCall (E1.out w1 (HTw.out.below hb)) hb).2)
                           | (with_reducible exact (addCall (E2.out w1 (HTw.out.below hb)) hb).2)
                           | (with_reducible exact (addCall (E3.out w1 (HTw.out.below hb)) hb).2)
                           | (with_reducible exact (addCall (E4.out w1 (HTw.out.below hb)) hb).2)
                           | exact (addCall (E1.out w1 (HTw.out.below hb)) hb).2
                           | exact (addCall (E2.out w1 (HTw.out.below hb)) hb).2
                           | exact (addCall (E3.out w1 (HTw.out.below hb)) hb).2
                           | exact (addCall (E4.out w1 (HTw.out.below hb)) hb).2
                           | exact rfl
                           | exact ⟨rfl, hb⟩
                         go_simp; refine hK' _ ?_; clear hK' K'))
                    refine add_nil ?_
                    intro wa hba
                    replace HQ := Lib.hid (HQ.out.below hba)
                    replace HX := Lib.hid (HX.out.below hba)
                    replace HU := Lib.hid (HU.out.below hba)
                    have HNz : Hid (N0 ≤ wa.heap.size) := by have := World.ownsRow.lt HU.out gu rfl; show _ ≤ _; omega
                    clear hba q0 q1 q2 q3 y0 y1 E1 E2 E3 E4 HTw
                    go_wp2_with (at_builtin; refine Hold.of ?_)
                    refine Hold.to ?_
                    refine wpl_app_rowA rfl (.tmp 103) (.tmp 105) rfl (w.heap.size + 1) N0 _ L (.slice (some ⟨gu, 0, none⟩) 4 4) row rfl (HX.out.below (below_al (Below.refl _ _))) (HU.out.alloc _) HN0.out _ 0 rfl (cell_alloc_at _ _ _ _ _ rfl) (by have := HLn.out; omega) (by have := HQ.out.sz; simp; omega) (fun v' w' a1 a2 a3 => ?_)
                    have HQ2 := Lib.hid (HQ.out.app (below_al (Below.refl _ _)) (HX.out.below (below_al (Below.refl _ _))) a2)
                    have O1 := Lib.hid a1
                    have HLn2 : Hid ((L ++ [row]).length = k + 1) := by show _ = _; rw [List.length_append, HLn.out]; rfl
                    have HA2 : Hid (∀ r ∈ L ++ [row], Row4 ts.length r) := fun r hr => by
                      rcases List.mem_append.1 hr with hr | hr
                      · exact HA.out r hr
                      · have := List.mem_singleton.1 hr; subst this; exact HR.out
                    clear a1 a2 a3
                    go_wp2_with fail
                    go_roundw
                    case rel => exact ⟨k + 1, L ++ [row], by omega, by go_num, HQ2, O1, HLn2, HA2⟩
                    case measure => simp [intOf]; omega
          · have h5' : ¬ (0 < r5) := h5
            go_wp2_with (at_builtin; refine Hold.of ?_)
            refine Hold.to ?_
            refine wpl_app_rowA rfl (.tmp 103) (.tmp 105) rfl (w.heap.size + 1) N0 _ L (.slice (some ⟨gu, 0, none⟩) 4 4) row rfl (HX.out.below (below_al (Below.refl _ _))) (HU.out.alloc _) HN0.out _ 0 rfl (cell_alloc_at _ _ _ _ _ rfl) (by have := HLn.out; omega) (by have := HQ.out.sz; simp; omega) (fun v' w' a1 a2 a3 => ?_)
            have HQ2 := Lib.hid (HQ.out.app (below_al (Below.refl _ _)) (HX.out.below (below_al (Below.refl _ _))) a2)
            have O1 := Lib.hid a1
            have HLn2 : Hid ((L ++ [row]).length = k + 1) := by show _ = _; rw [List.length_append, HLn.out]; rfl
            have HA2 : Hid (∀ r ∈ L ++ [row], Row4 ts.length r) := fun r hr => by
              rcases List.mem_append.1 hr with hr | hr
              · exact HA.out r hr
              · have := List.mem_singleton.1 hr; subst this; exact HR.out
            clear a1 a2 a3
            go_wp2_with fail
            go_roundw
            case rel => exact ⟨k + 1, L ++ [row], by omega, by go_num, HQ2, O1, HLn2, HA2⟩
            case measure => simp [intOf]; omega
        · have hq30' : ¬ ((q : Int) < 30) := by omega
          go_wp2_with (at_builtin; refine Hold.of ?_)
          refine Hold.to ?_
          refine wpl_app_rowA rfl (.tmp 103) (.tmp 105) rfl (w.heap.size + 1) N0 _ L (.slice (some ⟨gu, 0, none⟩) 4 4) row rfl (HX.out.below (below_al (Below.refl _ _))) (HU.out.alloc _) HN0.out _ 0 rfl (cell_alloc_at _ _ _ _ _ rfl) (by have := HLn.out; omega) (by have := HQ.out.sz; simp; omega) (fun v' w' a1 a2 a3 => ?_)
          have HQ2 := Lib.hid (HQ.out.app (below_al (Below.refl _ _)) (HX.out.below (below_al (Below.refl _ _))) a2)
          have O1 := Lib.hid a1
          have HLn2 : Hid ((L ++ [row]).length = k + 1) := by show _ = _; rw [List.length_append, HLn.out]; rfl
          have HA2 : Hid (∀ r ∈ L ++ [row], Row4 ts.length r) := fun r hr => by
            rcases List.mem_append.1 hr with hr | hr
            · exact HA.out r hr
            · have := List.mem_singleton.1 hr; subst this; exact HR.out
          clear a1 a2 a3
          go_wp2_with fail
          go_roundw
          case rel => exact ⟨k + 1, L ++ [row], by omega, by go_num, HQ2, O1, HLn2, HA2⟩
          case measure => simp [intOf]; omega
    · have hkk : k = ts.length := by omega
      have HBl : Hid (Blocks ts.length L) := blocks_of (HLn.out.trans hkk) HA.out
      have hkn' : ¬ ((k : Int) < (ts.length : Int)) := by omega
      by_cases hz : ts.length = 0
      · have hz' : ¬ ((0 : Int) < (ts.length : Int)) := by omega
        clear hz hkk
        have y0 := HQ.out.res.cell 0 (by simp)
        have y1 := HQ.out.res.cell 1 (by simp)
        have g0 := HQ.out.res.frozen 0
        have g1 := HQ.out.res.frozen 1
        simp only [List.getElem_cons_zero, List.getElem_cons_succ] at y0 y1
        have a0 := HQ.out.box.cell 0 (by simp)
        have a1 := HQ.out.box.cell 1 (by simp)
        simp only [List.getElem_cons_zero, List.getElem_cons_succ] at a0 a1
        have hne : w.heap.size ≠ gT := by have := HQ.out.hgT; omega
        go_wp2
        refine bodyPost_ret (v := .tuple #[.agg #[.int .i64 c, .slice A ts.length cx], .slice Av L.length cv]) (by
          have x0 := ((HQ.out.res.set 0 (.int .i64 c)).set 1 (.slice A ts.length cx)).cell 0 (by simp)
          have x1 := ((HQ.out.res.set 0 (.int .i64 c)).set 1 (.slice A ts.length cx)).cell 1 (by simp)
          simp only [List.set_cons_zero, List.set_cons_succ, List.getElem_cons_zero, List.getElem_cons_succ] at x0 x1
          simp [results, Tryz.results105, go_sem, x0, x1]) rfl ?_
        have hQz := HQ.out.sz
        have hg0 := HL.out
        refine ⟨c, ts, A, cx, _, L, rfl, (HQ.out.own.other w.heap.size 0 (by omega) _).other w.heap.size 1 (by omega) _, ?_, HK.out, HBl.out, (HQ.out.src.store (by dsimp only; omega)).store (by dsimp only; omega), grown_store (grown_store HQ.out.sub (Nat.le_refl _)) (Nat.le_refl _)⟩
        exact (HV.out.same (fun j hj _ => (Below.heap_setCell _ _ _ j (by dsimp only; omega)).trans (Below.heap_setCell _ _ _ j (by dsimp only; omega))))
      · have hz' : (0 : Int) < (ts.length : Int) := by omega
        clear hz hkk
        go_wp2_with fail
        refine (l01Next_c g code _ _ HQ.out.src).mono ?_
        rintro e wz ⟨r5, rfl, _, _, _, S, G⟩
        have HQ0s : Hid (w.heap.size + 1 ≤ wz.heap.size) := Nat.le_trans HQ.out.sz G.size
        replace HQ := Lib.hid (HQ.out.grow S G)
        replace HV := Lib.hid (HV.out.grew G (by have := HL.out; omega))
        clear S G
        by_cases h5 : r5 = 0
        · subst h5
          go_wp2_with fail
          refine (l01Named_c wiresB wz).mono ?_
          rintro e wn ⟨A, cx, rfl, hOn, hbn⟩
          have hK2 : SmallK (rdC (namedB wiresB)) (rdT (namedB wiresB)) := namedB_ok wiresB
          have hl4 := wires_len
          generalize rdC (namedB wiresB) = c at *
          generalize rdT (namedB wiresB) = ts at *
          generalize (namedB wiresB).isSome = bb at *
          replace HQ := Lib.hid (HQ.out.below hbn)
          have HOn := Lib.hid (hOn.lower (show w.heap.size + 1 ≤ wz.heap.size from by have h := HQ0s.out; omega))
          replace HK := Lib.hid hK2
          have HL4 := Lib.hid hl4
          have z0 := HQ.out.box.frozen 0
          have z1 := HQ.out.box.frozen 1
          have y0 := HQ.out.box.cell 0 (by simp)
          have y1 := HQ.out.box.cell 1 (by simp)
          simp only [List.getElem_cons_zero, List.getElem_cons_succ] at y0 y1
          replace HQ := Lib.hid (HQ.out.store (c' := c) HOn.out)
          clear hOn hbn hK2 hl4 HV HOn hN HBl HLn HA
          go_wp2_with fail
          refine (l01Next_c g code _ _ HQ.out.src).mono ?_
          rintro e wp ⟨r6, rfl, a6, _, b6, S, G⟩
          replace HQ := Lib.hid (HQ.out.grow S G)
          have H6 : r6 = 0 ∨ r6 = 1 := by have := b6 (by omega); omega
          clear S G z0 z1 y0 y1 a6 b6
          go_wp2_with fail
          refine (l01Next_c g code _ _ HQ.out.src).mono ?_
          rintro e wq ⟨r7, rfl, a7, _, b7, S, G⟩
          replace HQ := Lib.hid (HQ.out.grow S G)
          have H7 : r7 = 0 ∨ r7 = 1 := by have := b7 (by omega); omega
          clear S G a7 b7
          have HV0 : Hid (OwnII (wq.alloc (.cells #[] 35)) (w.heap.size + 1) (.slice (some ⟨wq.heap.size, 0, none⟩) 0 0) []) := OwnII.empty rfl HQ.out.sz
          replace HQ := Lib.hid (HQ.out.below (below_al (o := .cells #[] 35) (Below.refl _ _)))
          rcases H6 with rfl | rfl
          · rcases H7 with rfl | rfl
            · go_wp2_with fail
              go_loopw [6, 12] (fun v i wr => ∃ (q : Nat) (L : List (List Int)), q ≤ 4 ∧ i = .int .i64 (q : Nat) ∧ Hid (D9 w wr g code c ts A cx gT) ∧ Hid (OwnII wr (w.heap.size + 1) v L) ∧ Hid (L.length = q) ∧ Hid (∀ r ∈ L, Row4 4 r)) (fun _ i _ => 4 - (intOf i).toNat)
              case atStart => exact ⟨0, [], by omega, rfl, HQ, HV0, rfl, fun r hr => by simp at hr⟩
              case round =>
                clear HQ HV0
                obtain ⟨q, L, hq, rfl, HQ, HV, HLn, HA⟩ := hrel
                by_cases hq4 : q < 4
                · rcases (show q = 0 ∨ q = 1 ∨ q = 2 ∨ q = 3 by omega) with rfl | rfl | rfl | rfl
                  · obtain ⟨Av, cv, rfl, -⟩ := HV.out.rows
                    go_wp2_with (at_builtin; refine Hold.of ?_)
                    refine Hold.to ?_
                    refine wpl_app_row (W0 := wr) rfl (.tmp 143) (.tmp 161) rfl (w.heap.size + 1) _ L (.slice (some ⟨wr.heap.size, 0, none⟩) 4 4) [0, 0, 0, 0] rfl HV.out (below_al (below_al (Below.refl _ _))) ((OwnI.made wr _ #[.int .i64 0, .int .i64 0, .int .i64 0, .int .i64 0] [0, 0, 0, 0] rfl (Nat.le_refl _) (by simp)).alloc _) (wr.heap.size + 1) 0 rfl (cell_al _ _ _ _ _ _ (by simp) rfl) (by have := HLn.out; omega) HQ.out.sz (fun v' w' a1 a2 a3 => ?_)
                    have HQ2 := Lib.hid (HQ.out.app (below_al (below_al (Below.refl _ _))) (HV.out.below (below_al (below_al (Below.refl _ _)))).toX a2)
                    have O1 := Lib.hid a1
                    have HLn2 : Hid ((L ++ [[0, 0, 0, 0]]).length = 0 + 1) := by show _ = _; rw [List.length_append, HLn.out]; rfl
                    have HA2 : Hid (∀ r ∈ L ++ [[0, 0, 0, 0]], Row4 4 r) := fun r hr => by
                      rcases List.mem_append.1 hr with hr | hr
                      · exact HA.out r hr
                      · have := List.mem_singleton.1 hr; subst this; exact ⟨rfl, by decide⟩
                    clear a1 a2 a3
                    go_wp2_with fail
                    go_roundw
                    case rel => exact ⟨0 + 1, L ++ [[0, 0, 0, 0]], by omega, by go_num, HQ2, O1, HLn2, HA2⟩
                    case measure => simp [intOf]
                  · obtain ⟨Av, cv, rfl, -⟩ := HV.out.rows
                    go_wp2_with (at_builtin; refine Hold.of ?_)
                    refine Hold.to ?_
                    refine wpl_app_row (W0 := wr) rfl (.tmp 143) (.tmp 161) rfl (w.heap.size + 1) _ L (.slice (some ⟨wr.heap.size, 0, none⟩) 4 4) [1, 0, 1, 0] rfl HV.out (below_al (below_al (Below.refl _ _))) ((OwnI.made wr _ #[.int .i64 1, .int .i64 0, .int .i64 1, .int .i64 0] [1, 0, 1, 0] rfl (Nat.le_refl _) (by simp)).alloc _) (wr.heap.size + 1) 0 rfl (cell_al _ _ _ _ _ _ (by simp) rfl) (by have := HLn.out; omega) HQ.out.sz (fun v' w' a1 a2 a3 => ?_)
                    have HQ2 := Lib.hid (HQ.out.app (below_al (below_al (Below.refl _ _))) (HV.out.below (below_al (below_al (Below.refl _ _)))).toX a2)
                    have O1 := Lib.hid a1
                    have HLn2 : Hid ((L ++ [[1, 0, 1, 0]]).length = 1 + 1) := by show _ = _; rw [List.length_append, HLn.out]; rfl
                    have HA2 : Hid (∀ r ∈ L ++ [[1, 0, 1, 0]], Row4 4 r) := fun r hr => by
                      rcases List.mem_append.1 hr with hr | hr
                      · exact HA.out r hr
                      · have := List.mem_singleton.1 hr; subst this; exact ⟨rfl, by decide⟩
                    clear a1 a2 a3
                    go_wp2_with fail
                    go_roundw
                    case rel => exact ⟨1 + 1, L ++ [[1, 0, 1, 0]], by omega, by go_num, HQ2, O1, HLn2, HA2⟩
                    case measure => simp [intOf]
                  · obtain ⟨Av, cv, rfl, -⟩ := HV.out.rows
                    go_wp2_with (at_builtin; refine Hold.of ?_)
                    refine Hold.to ?_
                    refine wpl_app_row (W0 := wr) rfl (.tmp 143) (.tmp 161) rfl (w.heap.size + 1) _ L (.slice (some ⟨wr.heap.size, 0, none⟩) 4 4) [2, 2, 0, 0] rfl HV.out (below_al (below_al (Below.refl _ _))) ((OwnI.made wr _ #[.int .i64 2, .int .i64 2, .int .i64 0, .int .i64 0] [2, 2, 0, 0] rfl (Nat.le_refl _) (by simp)).alloc _) (wr.heap.size + 1) 0 rfl (cell_al _ _ _ _ _ _ (by simp) rfl) (by have := HLn.out; omega) HQ.out.sz (fun v' w' a1 a2 a3 => ?_)
                    have HQ2 := Lib.hid (HQ.out.app (below_al (below_al (Below.refl _ _))) (HV.out.below (below_al (below_al (Below.refl _ _)))).toX a2)
                    have O1 := Lib.hid a1
                    have HLn2 : Hid ((L ++ [[2, 2, 0, 0]]).length = 2 + 1) := by show _ = _; rw [List.length_append, HLn.out]; rfl
                    have HA2 : Hid (∀ r ∈ L ++ [[2, 2, 0, 0]], Row4 4 r) := fun r hr => by
                      rcases List.mem_append.1 hr with hr | hr
                      · exact HA.out r hr
                      · have := List.mem_singleton.1 hr; subst this; exact ⟨rfl, by decide⟩
                    clear a1 a2 a3
                    go_wp2_with fail
                    go_roundw
                    case rel => exact ⟨2 + 1, L ++ [[2, 2, 0, 0]], by omega, by go_num, HQ2, O1, HLn2, HA2⟩
                    case measure => simp [intOf]
                  · obtain ⟨Av, cv, rfl, -⟩ := HV.out.rows
                    go_wp2_with (at_builtin; refine Hold.of ?_)
                    refine Hold.to ?_
                    refine wpl_app_row (W0 := wr) rfl (.tmp 143) (.tmp 161) rfl (w.heap.size + 1) _ L (.slice (some ⟨wr.heap.size, 0, none⟩) 4 4) [3, 2, 1, 0] rfl HV.out (below_al (below_al (Below.refl _ _))) ((OwnI.made wr _ #[.int .i64 3, .int .i64 2, .int .i64 1, .int .i64 0] [3, 2, 1, 0] rfl (Nat.le_refl _) (by simp)).alloc _) (wr.heap.size + 1) 0 rfl (cell_al _ _ _ _ _ _ (by simp) rfl) (by have := HLn.out; omega) HQ.out.sz (fun v' w' a1 a2 a3 => ?_)
                    have HQ2 := Lib.hid (HQ.out.app (below_al (below_al (Below.refl _ _))) (HV.out.below (below_al (below_al (Below.refl _ _)))).toX a2)
                    have O1 := Lib.hid a1
                    have HLn2 : Hid ((L ++ [[3, 2, 1, 0]]).length = 3 + 1) := by show _ = _; rw [List.length_append, HLn.out]; rfl
                    have HA2 : Hid (∀ r ∈ L ++ [[3, 2, 1, 0]], Row4 4 r) := fun r hr => by
                      rcases List.mem_append.1 hr with hr | hr
                      · exact HA.out r hr
                      · have := List.mem_singleton.1 hr; subst this; exact ⟨rfl, by decide⟩
                    clear a1 a2 a3
                    go_wp2_with fail
                    go_roundw
                    case rel => exact ⟨3 + 1, L ++ [[3, 2, 1, 0]], by omega, by go_num, HQ2, O1, HLn2, HA2⟩
                    case measure => simp [intOf]
                · obtain rfl : q = 4 := by omega
                  obtain ⟨Av, cv, rfl, -⟩ := HV.out.rows
                  have HBl : Hid (Blocks ts.length L) := by rw [HL4.out]; exact blocks_of HLn.out HA.out
                  have y0 := HQ.out.res.cell 0 (by simp)
                  have y1 := HQ.out.res.cell 1 (by simp)
                  have g0 := HQ.out.res.frozen 0
                  have g1 := HQ.out.res.frozen 1
                  simp only [List.getElem_cons_zero, List.getElem_cons_succ] at y0 y1
                  have a0 := HQ.out.box.cell 0 (by simp)
                  have a1 := HQ.out.box.cell 1 (by simp)
                  simp only [List.getElem_cons_zero, List.getElem_cons_succ] at a0 a1
                  have hne : w.heap.size ≠ gT := by have := HQ.out.hgT; omega
                  go_wp2
                  refine bodyPost_ret (v := .tuple #[.agg #[.int .i64 c, .slice A ts.length cx], .slice Av L.length cv]) (by
                    have x0 := ((HQ.out.res.set 0 (.int .i64 c)).set 1 (.slice A ts.length cx)).cell 0 (by simp)
                    have x1 := ((HQ.out.res.set 0 (.int .i64 c)).set 1 (.slice A ts.length cx)).cell 1 (by simp)
                    simp only [List.set_cons_zero, List.set_cons_succ, List.getElem_cons_zero, List.getElem_cons_succ] at x0 x1
                    simp [results, Tryz.results105, go_sem, x0, x1]) rfl ?_
                  have hQz := HQ.out.sz
                  have hg0 := HL.out
                  refine ⟨c, ts, A, cx, _, L, rfl, (HQ.out.own.other w.heap.size 0 (by omega) _).other w.heap.size 1 (by omega) _, ?_, HK.out, HBl.out, (HQ.out.src.store (by dsimp only; omega)).store (by dsimp only; omega), grown_store (grown_store HQ.out.sub (Nat.le_refl _)) (Nat.le_refl _)⟩
                  exact (HV.out.same (fun j hj _ => (Below.heap_setCell _ _ _ j (by dsimp only; omega)).trans (Below.heap_setCell _ _ _ j (by dsimp only; omega))))
            · go_wp2_with fail
              go_loopw [6, 12] (fun v i wr => ∃ (q : Nat) (L : List (List Int)), q ≤ 4 ∧ i = .int .i64 (q : Nat) ∧ Hid (D9 w wr g code c ts A cx gT) ∧ Hid (OwnII wr (w.heap.size + 1) v L) ∧ Hid (L.length = q) ∧ Hid (∀ r ∈ L, Row4 4 r)) (fun _ i _ => 4 - (intOf i).toNat)
              case atStart => exact ⟨0, [], by omega, rfl, HQ, HV0, rfl, fun r hr => by simp at hr⟩
              case round =>
                clear HQ HV0
                obtain ⟨q, L, hq, rfl, HQ, HV, HLn, HA⟩ := hrel
                by_cases hq4 : q < 4
                · rcases (show q = 0 ∨ q = 1 ∨ q = 2 ∨ q = 3 by omega) with rfl | rfl | rfl | rfl
                  · obtain ⟨Av, cv, rfl, -⟩ := HV.out.rows
                    go_wp2_with (at_builtin; refine Hold.of ?_)
                    refine Hold.to ?_
                    refine wpl_app_row (W0 := wr) rfl (.tmp 143) (.tmp 161) rfl (w.heap.size + 1) _ L (.slice (some ⟨wr.heap.size, 0, none⟩) 4 4) [1, 1, 1, 1] rfl HV.out (below_al (below_al (Below.refl _ _))) ((OwnI.made wr _ #[.int .i64 1, .int .i64 1, .int .i64 1, .int .i64 1] [1, 1, 1, 1] rfl (Nat.le_refl _) (by simp)).alloc _) (wr.heap.size + 1) 0 rfl (cell_al _ _ _ _ _ _ (by simp) rfl) (by have := HLn.out; omega) HQ.out.sz (fun v' w' a1 a2 a3 => ?_)
                    have HQ2 := Lib.hid (HQ.out.app (below_al (below_al (Below.refl _ _))) (HV.out.below (below_al (below_al (Below.refl _ _)))).toX a2)
                    have O1 := Lib.hid a1
                    have HLn2 : Hid ((L ++ [[1, 1, 1, 1]]).length = 0 + 1) := by show _ = _; rw [List.length_append, HLn.out]; rfl
                    have HA2 : Hid (∀ r ∈ L ++ [[1, 1, 1, 1]], Row4 4 r) := fun r hr => by
                      rcases List.mem_append.1 hr with hr | hr
                      · exact HA.out r hr
                      · have := List.mem_singleton.1 hr; subst this; exact ⟨rfl, by decide⟩
                    clear a1 a2 a3
                    go_wp2_with fail
                    go_roundw
                    case rel => exact ⟨0 + 1, L ++ [[1, 1, 1, 1]], by omega, by go_num, HQ2, O1, HLn2, HA2⟩
                    case measure => simp [intOf]
                  · obtain ⟨Av, cv, rfl, -⟩ := HV.out.rows
                    go_wp2_with (at_builtin; refine Hold.of ?_)
                    refine Hold.to ?_
                    refine wpl_app_row (W0 := wr) rfl (.tmp 143) (.tmp 161) rfl (w.heap.size + 1) _ L (.slice (some ⟨wr.heap.size, 0, none⟩) 4 4) [0, 1, 0, 1] rfl HV.out (below_al (below_al (Below.refl _ _))) ((OwnI.made wr _ #[.int .i64 0, .int .i64 1, .int .i64 0, .int .i64 1] [0, 1, 0, 1] rfl (Nat.le_refl _) (by simp)).alloc _) (wr.heap.size + 1) 0 rfl (cell_al _ _ _ _ _ _ (by simp) rfl) (by have := HLn.out; omega) HQ.out.sz (fun v' w' a1 a2 a3 => ?_)
                    have HQ2 := Lib.hid (HQ.out.app (below_al (below_al (Below.refl _ _))) (HV.out.below (below_al (below_al (Below.refl _ _)))).toX a2)
                    have O1 := Lib.hid a1
                    have HLn2 : Hid ((L ++ [[0, 1, 0, 1]]).length = 1 + 1) := by show _ = _; rw [List.length_append, HLn.out]; rfl
                    have HA2 : Hid (∀ r ∈ L ++ [[0, 1, 0, 1]], Row4 4 r) := fun r hr => by
                      rcases List.mem_append.1 hr with hr | hr
                      · exact HA.out r hr
                      · have := List.mem_singleton.1 hr; subst this; exact ⟨rfl, by decide⟩
                    clear a1 a2 a3
                    go_wp2_with fail
                    go_roundw
                    case rel => exact ⟨1 + 1, L ++ [[0, 1, 0, 1]], by omega, by go_num, HQ2, O1, HLn2, HA2⟩
                    case measure => simp [intOf]
                  · obtain ⟨Av, cv, rfl, -⟩ := HV.out.rows
                    go_wp2_with (at_builtin; refine Hold.of ?_)
                    refine Hold.to ?_
                    refine wpl_app_row (W0 := wr) rfl (.tmp 143) (.tmp 161) rfl (w.heap.size + 1) _ L (.slice (some ⟨wr.heap.size, 0, none⟩) 4 4) [3, 3, 1, 1] rfl HV.out (below_al (below_al (Below.refl _ _))) ((OwnI.made wr _ #[.int .i64 3, .int .i64 3, .int .i64 1, .int .i64 1] [3, 3, 1, 1] rfl (Nat.le_refl _) (by simp)).alloc _) (wr.heap.size + 1) 0 rfl (cell_al _ _ _ _ _ _ (by simp) rfl) (by have := HLn.out; omega) HQ.out.sz (fun v' w' a1 a2 a3 => ?_)
                    have HQ2 := Lib.hid (HQ.out.app (below_al (below_al (Below.refl _ _))) (HV.out.below (below_al (below_al (Below.refl _ _)))).toX a2)
                    have O1 := Lib.hid a1
                    have HLn2 : Hid ((L ++ [[3, 3, 1, 1]]).length = 2 + 1) := by show _ = _; rw [List.length_append, HLn.out]; rfl
                    have HA2 : Hid (∀ r ∈ L ++ [[3, 3, 1, 1]], Row4 4 r) := fun r hr => by
                      rcases List.mem_append.1 hr with hr | hr
                      · exact HA.out r hr
                      · have := List.mem_singleton.1 hr; subst this; exact ⟨rfl, by decide⟩
                    clear a1 a2 a3
                    go_wp2_with fail
                    go_roundw
                    case rel => exact ⟨2 + 1, L ++ [[3, 3, 1, 1]], by omega, by go_num, HQ2, O1, HLn2, HA2⟩
                    case measure => simp [intOf]
                  · obtain ⟨Av, cv, rfl, -⟩ := HV.out.rows
                    go_wp2_with (at_builtin; refine Hold.of ?_)
                    refine Hold.to ?_
                    refine wpl_app_row (W0 := wr) rfl (.tmp 143) (.tmp 161) rfl (w.heap.size + 1) _ L (.slice (some ⟨wr.heap.size, 0, none⟩) 4 4) [2, 3, 0, 1] rfl HV.out (below_al (below_al (Below.refl _ _))) ((OwnI.made wr _ #[.int .i64 2, .int .i64 3, .int .i64 0, .int .i64 1] [2, 3, 0, 1] rfl (Nat.le_refl _) (by simp)).alloc _) (wr.heap.size + 1) 0 rfl (cell_al _ _ _ _ _ _ (by simp) rfl) (by have := HLn.out; omega) HQ.out.sz (fun v' w' a1 a2 a3 => ?_)
                    have HQ2 := Lib.hid (HQ.out.app (below_al (below_al (Below.refl _ _))) (HV.out.below (below_al (below_al (Below.refl _ _)))).toX a2)
                    have O1 := Lib.hid a1
                    have HLn2 : Hid ((L ++ [[2, 3, 0, 1]]).length = 3 + 1) := by show _ = _; rw [List.length_append, HLn.out]; rfl
                    have HA2 : Hid (∀ r ∈ L ++ [[2, 3, 0, 1]], Row4 4 r) := fun r hr => by
                      rcases List.mem_append.1 hr with hr | hr
                      · exact HA.out r hr
                      · have := List.mem_singleton.1 hr; subst this; exact ⟨rfl, by decide⟩
                    clear a1 a2 a3
                    go_wp2_with fail
                    go_roundw
                    case rel => exact ⟨3 + 1, L ++ [[2, 3, 0, 1]], by omega, by go_num, HQ2, O1, HLn2, HA2⟩
                    case measure => simp [intOf]
                · obtain rfl : q = 4 := by omega
                  obtain ⟨Av, cv, rfl, -⟩ := HV.out.rows
                  have HBl : Hid (Blocks ts.length L) := by rw [HL4.out]; exact blocks_of HLn.out HA.out
                  have y0 := HQ.out.res.cell 0 (by simp)
                  have y1 := HQ.out.res.cell 1 (by simp)
                  have g0 := HQ.out.res.frozen 0
                  have g1 := HQ.out.res.frozen 1
                  simp only [List.getElem_cons_zero, List.getElem_cons_succ] at y0 y1
                  have a0 := HQ.out.box.cell 0 (by simp)
                  have a1 := HQ.out.box.cell 1 (by simp)
                  simp only [List.getElem_cons_zero, List.getElem_cons_succ] at a0 a1
                  have hne : w.heap.size ≠ gT := by have := HQ.out.hgT; omega
                  go_wp2
                  refine bodyPost_ret (v := .tuple #[.agg #[.int .i64 c, .slice A ts.length cx], .slice Av L.length cv]) (by
                    have x0 := ((HQ.out.res.set 0 (.int .i64 c)).set 1 (.slice A ts.length cx)).cell 0 (by simp)
                    have x1 := ((HQ.out.res.set 0 (.int .i64 c)).set 1 (.slice A ts.length cx)).cell 1 (by simp)
                    simp only [List.set_cons_zero, List.set_cons_succ, List.getElem_cons_zero, List.getElem_cons_succ] at x0 x1
                    simp [results, Tryz.results105, go_sem, x0, x1]) rfl ?_
                  have hQz := HQ.out.sz
                  have hg0 := HL.out
                  refine ⟨c, ts, A, cx, _, L, rfl, (HQ.out.own.other w.heap.size 0 (by omega) _).other w.heap.size 1 (by omega) _, ?_, HK.out, HBl.out, (HQ.out.src.store (by dsimp only; omega)).store (by dsimp only; omega), grown_store (grown_store HQ.out.sub (Nat.le_refl _)) (Nat.le_refl _)⟩
                  exact (HV.out.same (fun j hj _ => (Below.heap_setCell _ _ _ j (by dsimp only; omega)).trans (Below.heap_setCell _ _ _ j (by dsimp only; omega))))
          · rcases H7 with rfl | rfl
            · go_wp2_with fail
              go_loopw [6, 12] (fun v i wr => ∃ (q : Nat) (L : List (List Int)), q ≤ 4 ∧ i = .int .i64 (q : Nat) ∧ Hid (D9 w wr g code c ts A cx gT) ∧ Hid (OwnII wr (w.heap.size + 1) v L) ∧ Hid (L.length = q) ∧ Hid (∀ r ∈ L, Row4 4 r)) (fun _ i _ => 4 - (intOf i).toNat)
              case atStart => exact ⟨0, [], by omega, rfl, HQ, HV0, rfl, fun r hr => by simp at hr⟩
              case round =>
                clear HQ HV0
                obtain ⟨q, L, hq, rfl, HQ, HV, HLn, HA⟩ := hrel
                by_cases hq4 : q < 4
                · rcases (show q = 0 ∨ q = 1 ∨ q = 2 ∨ q = 3 by omega) with rfl | rfl | rfl | rfl
                  · obtain ⟨Av, cv, rfl, -⟩ := HV.out.rows
                    go_wp2_with (at_builtin; refine Hold.of ?_)
                    refine Hold.to ?_
                    refine wpl_app_row (W0 := wr) rfl (.tmp 143) (.tmp 161) rfl (w.heap.size + 1) _ L (.slice (some ⟨wr.heap.size, 0, none⟩) 4 4) [2, 2, 0, 0] rfl HV.out (below_al (below_al (Below.refl _ _))) ((OwnI.made wr _ #[.int .i64 2, .int .i64 2, .int .i64 0, .int .i64 0] [2, 2, 0, 0] rfl (Nat.le_refl _) (by simp)).alloc _) (wr.heap.size + 1) 0 rfl (cell_al _ _ _ _ _ _ (by simp) rfl) (by have := HLn.out; omega) HQ.out.sz (fun v' w' a1 a2 a3 => ?_)
                    have HQ2 := Lib.hid (HQ.out.app (below_al (below_al (Below.refl _ _))) (HV.out.below (below_al (below_al (Below.refl _ _)))).toX a2)
                    have O1 := Lib.hid a1
                    have HLn2 : Hid ((L ++ [[2, 2, 0, 0]]).length = 0 + 1) := by show _ = _; rw [List.length_append, HLn.out]; rfl
                    have HA2 : Hid (∀ r ∈ L ++ [[2, 2, 0, 0]], Row4 4 r) := fun r hr => by
                      rcases List.mem_append.1 hr with hr | hr
                      · exact HA.out r hr
                      · have := List.mem_singleton.1 hr; subst this; exact ⟨rfl, by decide⟩
                    clear a1 a2 a3
                    go_wp2_with fail
                    go_roundw
                    case rel => exact ⟨0 + 1, L ++ [[2, 2, 0, 0]], by omega, by go_num, HQ2, O1, HLn2, HA2⟩
                    case measure => simp [intOf]
                  · obtain ⟨Av, cv, rfl, -⟩ := HV.out.rows
                    go_wp2_with (at_builtin; refine Hold.of ?_)
                    refine Hold.to ?_
                    refine wpl_app_row (W0 := wr) rfl (.tmp 143) (.tmp 161) rfl (w.heap.size + 1) _ L (.slice (some ⟨wr.heap.size, 0, none⟩) 4 4) [3, 2, 1, 0] rfl HV.out (below_al (below_al (Below.refl _ _))) ((OwnI.made wr _ #[.int .i64 3, .int .i64 2, .int .i64 1, .int .i64 0] [3, 2, 1, 0] rfl (Nat.le_refl _) (by simp)).alloc _) (wr.heap.size + 1) 0 rfl (cell_al _ _ _ _ _ _ (by simp) rfl) (by have := HLn.out; omega) HQ.out.sz (fun v' w' a1 a2 a3 => ?_)
                    have HQ2 := Lib.hid (HQ.out.app (below_al (below_al (Below.refl _ _))) (HV.out.below (below_al (below_al (Below.refl _ _)))).toX a2)
                    have O1 := Lib.hid a1
                    have HLn2 : Hid ((L ++ [[3, 2, 1, 0]]).length = 1 + 1) := by show _ = _; rw [List.length_append, HLn.out]; rfl
                    have HA2 : Hid (∀ r ∈ L ++ [[3, 2, 1, 0]], Row4 4 r) := fun r hr => by
                      rcases List.mem_append.1 hr with hr | hr
                      · exact HA.out r hr
                      · have := List.mem_singleton.1 hr; subst this; exact ⟨rfl, by decide⟩
                    clear a1 a2 a3
                    go_wp2_with fail
                    go_roundw
                    case rel => exact ⟨1 + 1, L ++ [[3, 2, 1, 0]], by omega, by go_num, HQ2, O1, HLn2, HA2⟩
                    case measure => simp [intOf]
                  · obtain ⟨Av, cv, rfl, -⟩ := HV.out.rows
                    go_wp2_with (at_builtin; refine Hold.of ?_)
                    refine Hold.to ?_
                    refine wpl_app_row (W0 := wr) rfl (.tmp 143) (.tmp 161) rfl (w.heap.size + 1) _ L (.slice (some ⟨wr.heap.size, 0, none⟩) 4 4) [0, 0, 2, 2] rfl HV.out (below_al (below_al (Below.refl _ _))) ((OwnI.made wr _ #[.int .i64 0, .int .i64 0, .int .i64 2, .int .i64 2] [0, 0, 2, 2] rfl (Nat.le_refl _) (by simp)).alloc _) (wr.heap.size + 1) 0 rfl (cell_al _ _ _ _ _ _ (by simp) rfl) (by have := HLn.out; omega) HQ.out.sz (fun v' w' a1 a2 a3 => ?_)
                    have HQ2 := Lib.hid (HQ.out.app (below_al (below_al (Below.refl _ _))) (HV.out.below (below_al (below_al (Below.refl _ _)))).toX a2)
                    have O1 := Lib.hid a1
                    have HLn2 : Hid ((L ++ [[0, 0, 2, 2]]).length = 2 + 1) := by show _ = _; rw [List.length_append, HLn.out]; rfl
                    have HA2 : Hid (∀ r ∈ L ++ [[0, 0, 2, 2]], Row4 4 r) := fun r hr => by
                      rcases List.mem_append.1 hr with hr | hr
                      · exact HA.out r hr
                      · have := List.mem_singleton.1 hr; subst this; exact ⟨rfl, by decide⟩
                    clear a1 a2 a3
                    go_wp2_with fail
                    go_roundw
                    case rel => exact ⟨2 + 1, L ++ [[0, 0, 2, 2]], by omega, by go_num, HQ2, O1, HLn2, HA2⟩
                    case measure => simp [intOf]
                  · obtain ⟨Av, cv, rfl, -⟩ := HV.out.rows
                    go_wp2_with (at_builtin; refine Hold.of ?_)
                    refine Hold.to ?_
                    refine wpl_app_row (W0 := wr) rfl (.tmp 143) (.tmp 161) rfl (w.heap.size + 1) _ L (.slice (some ⟨wr.heap.size, 0, none⟩) 4 4) [1, 0, 3, 2] rfl HV.out (below_al (below_al (Below.refl _ _))) ((OwnI.made wr _ #[.int .i64 1, .int .i64 0, .int .i64 3, .int .i64 2] [1, 0, 3, 2] rfl (Nat.le_refl _) (by simp)).alloc _) (wr.heap.size + 1) 0 rfl (cell_al _ _ _ _ _ _ (by simp) rfl) (by have := HLn.out; omega) HQ.out.sz (fun v' w' a1 a2 a3 => ?_)
                    have HQ2 := Lib.hid (HQ.out.app (below_al (below_al (Below.refl _ _))) (HV.out.below (below_al (below_al (Below.refl _ _)))).toX a2)
                    have O1 := Lib.hid a1
                    have HLn2 : Hid ((L ++ [[1, 0, 3, 2]]).length = 3 + 1) := by show _ = _; rw [List.length_append, HLn.out]; rfl
                    have HA2 : Hid (∀ r ∈ L ++ [[1, 0, 3, 2]], Row4 4 r) := fun r hr => by
                      rcases List.mem_append.1 hr with hr | hr
                      · exact HA.out r hr
                      · have := List.mem_singleton.1 hr; subst this; exact ⟨rfl, by decide⟩
                    clear a1 a2 a3
                    go_wp2_with fail
                    go_roundw
                    case rel => exact ⟨3 + 1, L ++ [[1, 0, 3, 2]], by omega, by go_num, HQ2, O1, HLn2, HA2⟩
                    case measure => simp [intOf]
                · obtain rfl : q = 4 := by omega
                  obtain ⟨Av, cv, rfl, -⟩ := HV.out.rows
                  have HBl : Hid (Blocks ts.length L) := by rw [HL4.out]; exact blocks_of HLn.out HA.out
                  have y0 := HQ.out.res.cell 0 (by simp)
                  have y1 := HQ.out.res.cell 1 (by simp)
                  have g0 := HQ.out.res.frozen 0
                  have g1 := HQ.out.res.frozen 1
                  simp only [List.getElem_cons_zero, List.getElem_cons_succ] at y0 y1
                  have a0 := HQ.out.box.cell 0 (by simp)
                  have a1 := HQ.out.box.cell 1 (by simp)
                  simp only [List.getElem_cons_zero, List.getElem_cons_succ] at a0 a1
                  have hne : w.heap.size ≠ gT := by have := HQ.out.hgT; omega
                  go_wp2
                  refine bodyPost_ret (v := .tuple #[.agg #[.int .i64 c, .slice A ts.length cx], .slice Av L.length cv]) (by
                    have x0 := ((HQ.out.res.set 0 (.int .i64 c)).set 1 (.slice A ts.length cx)).cell 0 (by simp)
                    have x1 := ((HQ.out.res.set 0 (.int .i64 c)).set 1 (.slice A ts.length cx)).cell 1 (by simp)
                    simp only [List.set_cons_zero, List.set_cons_succ, List.getElem_cons_zero, List.getElem_cons_succ] at x0 x1
                    simp [results, Tryz.results105, go_sem, x0, x1]) rfl ?_
                  have hQz := HQ.out.sz
                  have hg0 := HL.out
                  refine ⟨c, ts, A, cx, _, L, rfl, (HQ.out.own.other w.heap.size 0 (by omega) _).other w.heap.size 1 (by omega) _, ?_, HK.out, HBl.out, (HQ.out.src.store (by dsimp only; omega)).store (by dsimp only; omega), grown_store (grown_store HQ.out.sub (Nat.le_refl _)) (Nat.le_refl _)⟩
                  exact (HV.out.same (fun j hj _ => (Below.heap_setCell _ _ _ j (by dsimp only; omega)).trans (Below.heap_setCell _ _ _ j (by dsimp only; omega))))
            · go_wp2_with fail
              go_loopw [6, 12] (fun v i wr => ∃ (q : Nat) (L : List (List Int)), q ≤ 4 ∧ i = .int .i64 (q : Nat) ∧ Hid (D9 w wr g code c ts A cx gT) ∧ Hid (OwnII wr (w.heap.size + 1) v L) ∧ Hid (L.length = q) ∧ Hid (∀ r ∈ L, Row4 4 r)) (fun _ i _ => 4 - (intOf i).toNat)
              case atStart => exact ⟨0, [], by omega, rfl, HQ, HV0, rfl, fun r hr => by simp at hr⟩
              case round =>
                clear HQ HV0
                obtain ⟨q, L, hq, rfl, HQ, HV, HLn, HA⟩ := hrel
                by_cases hq4 : q < 4
                · rcases (show q = 0 ∨ q = 1 ∨ q = 2 ∨ q = 3 by omega) with rfl | rfl | rfl | rfl
                  · obtain ⟨Av, cv, rfl, -⟩ := HV.out.rows
                    go_wp2_with (at_builtin; refine Hold.of ?_)
                    refine Hold.to ?_
                    refine wpl_app_row (W0 := wr) rfl (.tmp 143) (.tmp 161) rfl (w.heap.size + 1) _ L (.slice (some ⟨wr.heap.size, 0, none⟩) 4 4) [3, 3, 1, 1] rfl HV.out (below_al (below_al (Below.refl _ _))) ((OwnI.made wr _ #[.int .i64 3, .int .i64 3, .int .i64 1, .int .i64 1] [3, 3, 1, 1] rfl (Nat.le_refl _) (by simp)).alloc _) (wr.heap.size + 1) 0 rfl (cell_al _ _ _ _ _ _ (by simp) rfl) (by have := HLn.out; omega) HQ.out.sz (fun v' w' a1 a2 a3 => ?_)
                    have HQ2 := Lib.hid (HQ.out.app (below_al (below_al (Below.refl _ _))) (HV.out.below (below_al (below_al (Below.refl _ _)))).toX a2)
                    have O1 := Lib.hid a1
                    have HLn2 : Hid ((L ++ [[3, 3, 1, 1]]).length = 0 + 1) := by show _ = _; rw [List.length_append, HLn.out]; rfl
                    have HA2 : Hid (∀ r ∈ L ++ [[3, 3, 1, 1]], Row4 4 r) := fun r hr => by
                      rcases List.mem_append.1 hr with hr | hr
                      · exact HA.out r hr
                      · have := List.mem_singleton.1 hr; subst this; exact ⟨rfl, by decide⟩
                    clear a1 a2 a3
                    go_wp2_with fail
                    go_roundw
                    case rel => exact ⟨0 + 1, L ++ [[3, 3, 1, 1]], by omega, by go_num, HQ2, O1, HLn2, HA2⟩
                    case measure => simp [intOf]
                  · obtain ⟨Av, cv, rfl, -⟩ := HV.out.rows
                    go_wp2_with (at_builtin; refine Hold.of ?_)
                    refine Hold.to ?_
                    refine wpl_app_row (W0 := wr) rfl (.tmp 143) (.tmp 161) rfl (w.heap.size + 1) _ L (.slice (some ⟨wr.heap.size, 0, none⟩) 4 4) [2, 3, 0, 1] rfl HV.out (below_al (below_al (Below.refl _ _))) ((OwnI.made wr _ #[.int .i64 2, .int .i64 3, .int .i64 0, .int .i64 1] [2, 3, 0, 1] rfl (Nat.le_refl _) (by simp)).alloc _) (wr.heap.size + 1) 0 rfl (cell_al _ _ _ _ _ _ (by simp) rfl) (by have := HLn.out; omega) HQ.out.sz (fun v' w' a1 a2 a3 => ?_)
                    have HQ2 := Lib.hid (HQ.out.app (below_al (below_al (Below.refl _ _))) (HV.out.below (below_al (below_al (Below.refl _ _)))).toX a2)
                    have O1 := Lib.hid a1
                    have HLn2 : Hid ((L ++ [[2, 3, 0, 1]]).length = 1 + 1) := by show _ = _; rw [List.length_append, HLn.out]; rfl
                    have HA2 : Hid (∀ r ∈ L ++ [[2, 3, 0, 1]], Row4 4 r) := fun r hr => by
                      rcases List.mem_append.1 hr with hr | hr
                      · exact HA.out r hr
                      · have := List.mem_singleton.1 hr; subst this; exact ⟨rfl, by decide⟩
                    clear a1 a2 a3
                    go_wp2_with fail
                    go_roundw
                    case rel => exact ⟨1 + 1, L ++ [[2, 3, 0, 1]], by omega, by go_num, HQ2, O1, HLn2, HA2⟩
                    case measure => simp [intOf]
                  · obtain ⟨Av, cv, rfl, -⟩ := HV.out.rows
                    go_wp2_with (at_builtin; refine Hold.of ?_)
                    refine Hold.to ?_
                    refine wpl_app_row (W0 := wr) rfl (.tmp 143) (.tmp 161) rfl (w.heap.size + 1) _ L (.slice (some ⟨wr.heap.size, 0, none⟩) 4 4) [1, 1, 3, 3] rfl HV.out (below_al (below_al (Below.refl _ _))) ((OwnI.made wr _ #[.int .i64 1, .int .i64 1, .int .i64 3, .int .i64 3] [1, 1, 3, 3] rfl (Nat.le_refl _) (by simp)).alloc _) (wr.heap.size + 1) 0 rfl (cell_al _ _ _ _ _ _ (by simp) rfl) (by have := HLn.out; omega) HQ.out.sz (fun v' w' a1 a2 a3 => ?_)
                    have HQ2 := Lib.hid (HQ.out.app (below_al (below_al (Below.refl _ _))) (HV.out.below (below_al (below_al (Below.refl _ _)))).toX a2)
                    have O1 := Lib.hid a1
                    have HLn2 : Hid ((L ++ [[1, 1, 3, 3]]).length = 2 + 1) := by show _ = _; rw [List.length_append, HLn.out]; rfl
                    have HA2 : Hid (∀ r ∈ L ++ [[1, 1, 3, 3]], Row4 4 r) := fun r hr => by
                      rcases List.mem_append.1 hr with hr | hr
                      · exact HA.out r hr
                      · have := List.mem_singleton.1 hr; subst this; exact ⟨rfl, by decide⟩
                    clear a1 a2 a3
                    go_wp2_with fail
                    go_roundw
                    case rel => exact ⟨2 + 1, L ++ [[1, 1, 3, 3]], by omega, by go_num, HQ2, O1, HLn2, HA2⟩
                    case measure => simp [intOf]
                  · obtain ⟨Av, cv, rfl, -⟩ := HV.out.rows
                    go_wp2_with (at_builtin; refine Hold.of ?_)
                    refine Hold.to ?_
                    refine wpl_app_row (W0 := wr) rfl (.tmp 143) (.tmp 161) rfl (w.heap.size + 1) _ L (.slice (some ⟨wr.heap.size, 0, none⟩) 4 4) [0, 1, 2, 3] rfl HV.out (below_al (below_al (Below.refl _ _))) ((OwnI.made wr _ #[.int .i64 0, .int .i64 1, .int .i64 2, .int .i64 3] [0, 1, 2, 3] rfl (Nat.le_refl _) (by simp)).alloc _) (wr.heap.size + 1) 0 rfl (cell_al _ _ _ _ _ _ (by simp) rfl) (by have := HLn.out; omega) HQ.out.sz (fun v' w' a1 a2 a3 => ?_)
                    have HQ2 := Lib.hid (HQ.out.app (below_al (below_al (Below.refl _ _))) (HV.out.below (below_al (below_al (Below.refl _ _)))).toX a2)
                    have O1 := Lib.hid a1
                    have HLn2 : Hid ((L ++ [[0, 1, 2, 3]]).length = 3 + 1) := by show _ = _; rw [List.length_append, HLn.out]; rfl
                    have HA2 : Hid (∀ r ∈ L ++ [[0, 1, 2, 3]], Row4 4 r) := fun r hr => by
                      rcases List.mem_append.1 hr with hr | hr
                      · exact HA.out r hr
                      · have := List.mem_singleton.1 hr; subst this; exact ⟨rfl, by decide⟩
                    clear a1 a2 a3
                    go_wp2_with fail
                    go_roundw
                    case rel => exact ⟨3 + 1, L ++ [[0, 1, 2, 3]], by omega, by go_num, HQ2, O1, HLn2, HA2⟩
                    case measure => simp [intOf]
                · obtain rfl : q = 4 := by omega
                  obtain ⟨Av, cv, rfl, -⟩ := HV.out.rows
                  have HBl : Hid (Blocks ts.length L) := by rw [HL4.out]; exact blocks_of HLn.out HA.out
                  have y0 := HQ.out.res.cell 0 (by simp)
                  have y1 := HQ.out.res.cell 1 (by simp)
                  have g0 := HQ.out.res.frozen 0
                  have g1 := HQ.out.res.frozen 1
                  simp only [List.getElem_cons_zero, List.getElem_cons_succ] at y0 y1
                  have a0 := HQ.out.box.cell 0 (by simp)
                  have a1 := HQ.out.box.cell 1 (by simp)
                  simp only [List.getElem_cons_zero, List.getElem_cons_succ] at a0 a1
                  have hne : w.heap.size ≠ gT := by have := HQ.out.hgT; omega
                  go_wp2
                  refine bodyPost_ret (v := .tuple #[.agg #[.int .i64 c, .slice A ts.length cx], .slice Av L.length cv]) (by
                    have x0 := ((HQ.out.res.set 0 (.int .i64 c)).set 1 (.slice A ts.length cx)).cell 0 (by simp)
                    have x1 := ((HQ.out.res.set 0 (.int .i64 c)).set 1 (.slice A ts.length cx)).cell 1 (by simp)
                    simp only [List.set_cons_zero, List.set_cons_succ, List.getElem_cons_zero, List.getElem_cons_succ] at x0 x1
                    simp [results, Tryz.results105, go_sem, x0, x1]) rfl ?_
                  have hQz := HQ.out.sz
                  have hg0 := HL.out
                  refine ⟨c, ts, A, cx, _, L, rfl, (HQ.out.own.other w.heap.size 0 (by omega) _).other w.heap.size 1 (by omega) _, ?_, HK.out, HBl.out, (HQ.out.src.store (by dsimp only; omega)).store (by dsimp only; omega), grown_store (grown_store HQ.out.sub (Nat.le_refl _)) (Nat.le_refl _)⟩
                  exact (HV.out.same (fun j hj _ => (Below.heap_setCell _ _ _ j (by dsimp only; omega)).trans (Below.heap_setCell _ _ _ j (by dsimp only; omega))))
        · replace h5 : (r5 == 0) = false := by simp [h5]
          have y0 := HQ.out.res.cell 0 (by simp)
          have y1 := HQ.out.res.cell 1 (by simp)
          have g0 := HQ.out.res.frozen 0
          have g1 := HQ.out.res.frozen 1
          simp only [List.getElem_cons_zero, List.getElem_cons_succ] at y0 y1
          have a0 := HQ.out.box.cell 0 (by simp)
          have a1 := HQ.out.box.cell 1 (by simp)
          simp only [List.getElem_cons_zero, List.getElem_cons_succ] at a0 a1
          have hne : w.heap.size ≠ gT := by have := HQ.out.hgT; omega
          go_wp2
          refine bodyPost_ret (v := .tuple #[.agg #[.int .i64 c, .slice A ts.length cx], .slice Av L.length cv]) (by
            have x0 := ((HQ.out.res.set 0 (.int .i64 c)).set 1 (.slice A ts.length cx)).cell 0 (by simp)
            have x1 := ((HQ.out.res.set 0 (.int .i64 c)).set 1 (.slice A ts.length cx)).cell 1 (by simp)
            simp only [List.set_cons_zero, List.set_cons_succ, List.getElem_cons_zero, List.getElem_cons_succ] at x0 x1
            simp [results, Tryz.results105, go_sem, x0, x1]) rfl ?_
          have hQz := HQ.out.sz
          have hg0 := HL.out
          refine ⟨c, ts, A, cx, _, L, rfl, (HQ.out.own.other w.heap.size 0 (by omega) _).other w.heap.size 1 (by omega) _, ?_, HK.out, HBl.out, (HQ.out.src.store (by dsimp only; omega)).store (by dsimp only; omega), grown_store (grown_store HQ.out.sub (Nat.le_refl _)) (Nat.le_refl _)⟩
          exact (HV.out.same (fun j hj _ => (Below.heap_setCell _ _ _ j (by dsimp only; omega)).trans (Below.heap_setCell _ _ _ j (by dsimp only; omega))))

end Go.Proofs.YtkgnejhflnekaaaGreat
