/- Contracts and lemmas for the statements of this seat, written for this claim; each theorem states its own conditions. -/
import Derived.Test.YtkgnejhflnekaaaFrOs
set_option linter.unusedVariables false
set_option linter.unusedSimpArgs false
namespace Go.Proofs.Ytkgnejhflnekaaa
open Go.RowKit
theorem app_intsN {o : Oper} {a : Act} {W : World} {K : Act → World → Prop} {Q : Exit → Act → World → Prop} (s x : Operand)
    (ho : o.op = .call { callee := .builtin .append, args := #[s, x], argTypes := #[40, 40] }) (B : Nat) (v : Value) (xs ys : List Int) (hs : a.eval s = v) (hown : OwnI W B v xs)
    (b off cap : Nat) (hx : a.eval x = .slice (some ⟨b, off, none⟩) ys.length cap) (hc : ∀ j (h : j < ys.length), W.cell? ⟨b, off + j, none⟩ = some (.int .i64 ys[j])) (hl : xs.length + ys.length ≤ 1000000000000) (hB : B ≤ W.heap.size)
    (h : ∀ v' w', OwnI w' B v' (xs ++ ys) → W.grownBy w' v.ownBlock → (v'.ownBlock = v.ownBlock ∨ v'.ownBlock = some W.heap.size) → K (a.put o.dst v') w') : o.wp Try.prog a W K Q := by
  refine app_gen s x 40 2 (.int .i64 0) 1 8 ho Try.underlying40 infoInt rfl (by decide) B v xs.length (ints xs) hs hown ⟨b, off, none⟩ ys.length cap (ints ys) hx (by rw [ints_length, Nat.mul_one]) ?_ ?_ ?_ ?_ hB ?_
  · intro j u hj
    rw [add_off]
    have hj2 : j < ys.length := by
      have := (List.getElem?_eq_some_iff.1 hj).1
      rwa [ints_length] at this
    rw [hc j hj2]
    rw [← hj]
    simp [ints, hj2]
  · intro u hu
    simp only [ints, List.mem_map] at hu
    obtain ⟨z, _, rfl⟩ := hu
    rfl
  · simp [maxLen]; omega
  · omega
  · intro v' w' h1 h2 h3
    refine h v' w' ?_ h2 h3
    unfold OwnI
    have e : ints (xs ++ ys) = ints xs ++ ints ys := by simp [ints]
    rw [e, List.length_append]
    exact h1
/-- the slices of a list of slices have room for what they hold -/
def CapsC (w : World) (B : Option Addr) (L : List (List Int)) : Prop :=
  ∀ k (h : k < L.length) b off A cx, B = some ⟨b, off, none⟩ → w.cell? ⟨b, off + k, none⟩ = some (.slice A L[k].length cx) → L[k].length ≤ cx
theorem CapsC.below {w w1 : World} {B : Option Addr} {L : List (List Int)} (h : CapsC w B L) (hR : RowsC w B L) (hb : Below w.heap.size w w1) : CapsC w1 B L := by
  intro k hk b off A cx e hc
  obtain ⟨b', off', A', cx', e', hlt, hc', _⟩ := hR k hk
  rw [e] at e'
  injection e' with e'
  injection e' with e1 e2
  subst e1 e2
  rw [(hb.cell (p := ⟨b, _, none⟩) hlt)] at hc
  exact h k hk b off A cx e hc
theorem OwnI.cap {w : World} {B n cx : Nat} {A : Option Addr} {xs : List Int} (h : OwnI w B (.slice A n cx) xs) : xs.length ≤ cx := by
  obtain ⟨h1, h2⟩ := h
  rcases h2 with ⟨e1, e2⟩ | ⟨g', cap, cur, e1, _, _, e4, _⟩
  · omega
  · injection e1 with a1 a2 a3; omega
theorem OwnII.caps {w : World} {B n cx : Nat} {A : Option Addr} {L : List (List Int)} (h : OwnII w B (.slice A n cx) L) : CapsC w A L := by
  intro k hk b off A' cx' e hc
  obtain ⟨vs, h1, h2, _⟩ := h
  have hl : vs.length = L.length := by have := h1.1; omega
  have h0 := h1
  obtain ⟨_, h3⟩ := h1
  rcases h3 with ⟨h3, h4⟩ | ⟨g, cap, cur, e1, e2, e3, _⟩
  · omega
  · injection e1 with a1 a2 a3
    subst a1 a2 a3
    injection e with e
    injection e with e5 e6
    subst e5 e6
    have h9 := World.ownsRow.cellAt h0 k (by omega)
    rw [Nat.zero_add, h9, List.getElem?_eq_getElem (by omega)] at hc
    have ho := h2 k (by omega) hk
    rw [Option.some.inj hc] at ho
    exact ho.cap
/-- two lists of numbers, new, are appended to an owned list of lists -/
theorem wpl_app_row2 {ops : Array Oper} {rest : List Oper} {o : Oper} {a : Act} {W0 W : World} {Q : Exit → Act → World → Prop} (hgd : o.guard = none) (s x : Operand)
    (ho : o.op = .call { callee := .builtin .append, args := #[s, x], argTypes := #[27, 27] }) (B : Nat) (v : Value) (L : List (List Int)) (u1 u2 : Value) (xs ys : List Int) (hs : a.eval s = v) (hown : OwnII W0 B v L)
    (hW : Below W0.heap.size W0 W) (hu1 : OwnI W W0.heap.size u1 xs) (hu2 : OwnI W W0.heap.size u2 ys) (h12 : Apart u1 u2)
    (b off cap : Nat) (hx : a.eval x = .slice (some ⟨b, off, none⟩) 2 cap) (hc1 : W.cell? ⟨b, off, none⟩ = some u1) (hc2 : W.cell? ⟨b, off + 1, none⟩ = some u2) (hl : L.length ≤ 1000000000000) (hB : B ≤ W0.heap.size)
    (h : ∀ v' w', OwnII w' B v' (L ++ [xs, ys]) → W.grownBy w' v.ownBlock → (∀ k, v.ownBlock = some k → B ≤ k) → wpList Try.prog ops Q rest (a.put o.dst v') w') : wpList Try.prog ops Q (o :: rest) a W := by
  refine wpList_plain hgd fun Kq hKq => ?_
  obtain ⟨vs, g1, g2, h3, h4⟩ := hown
  have h1 : W.ownsRow B 40 1 v L.length vs := World.ownsRow.kept (row := none) g1 ⟨hW.os, hW.tape, hW.output, hW.size, fun k hk _ => hW.block k hk⟩ (by cases h : v.ownBlock with | none => exact .inl rfl | some k => exact .inr (by simp))
  have h2 : ∀ i (h : i < vs.length) (h' : i < L.length), OwnI W B vs[i] L[i] := fun i h h' => (g2 i h h').below hW
  have hvl : vs.length = L.length := by have := h1.1; omega
  refine app_gen s x 27 40 (.slice none 0 0) 1 24 ho Try.underlying27 infoSl rfl (by decide) B v L.length vs hs h1 ⟨b, off, none⟩ 2 cap [u1, u2] hx rfl ?_ ?_ ?_ ?_ (Nat.le_trans hB hW.size) ?_
  · intro j z hj
    rw [add_off]
    rcases j with _ | _ | j
    · simp at hj; subst hj; simpa using hc1
    · simp at hj; subst hj; simpa using hc2
    · simp at hj
  · intro z hz
    simp at hz
    rcases hz with rfl | rfl
    · obtain ⟨A, cx, rfl, _⟩ := hu1.shape
      rfl
    · obtain ⟨A, cx, rfl, _⟩ := hu2.shape
      rfl
  · simp [maxLen]; omega
  · omega
  · intro v' w' k1 k2 k3
    refine hKq _ _ (h v' w' ?_ k2 (fun k hk => (World.ownsRow.lt h1 k hk).1))
    have hvb0 : ∀ k, v.ownBlock = some k → k < W0.heap.size := fun k hk => (World.ownsRow.lt g1 k hk).2
    have uv : ∀ u zs, OwnI W W0.heap.size u zs → Apart u v := fun u zs hu => by
      cases eu : u.ownBlock with
      | none => exact .inl eu
      | some k =>
        right; rw [eu]; intro e
        have := (World.ownsRow.lt hu k eu).1
        have := hvb0 k e.symm
        omega
    have far : ∀ q (hq : q < vs.length) u zs, OwnI W W0.heap.size u zs → Apart vs[q] u := fun q hq u zs hu => (own_apart (g2 q hq (by omega)) hu).1
    have get : ∀ i (hi : i < (vs ++ [u1, u2]).length), (∃ h : i < vs.length, (vs ++ [u1, u2])[i] = vs[i]) ∨ (i = vs.length ∧ (vs ++ [u1, u2])[i] = u1) ∨ (i = vs.length + 1 ∧ (vs ++ [u1, u2])[i] = u2) := fun i hi => by
      by_cases e : i < vs.length
      · exact .inl ⟨e, List.getElem_append_left e⟩
      · by_cases e2 : i = vs.length
        · subst e2; exact .inr (.inl ⟨rfl, by simp⟩)
        · have e3 : i = vs.length + 1 := by simp at hi; omega
          subst e3
          exact .inr (.inr ⟨rfl, by simp⟩)
    refine ⟨vs ++ [u1, u2], by rw [List.length_append]; exact k1, fun i hi hi' => ?_, fun i j hi hj hij => ?_, fun i hi => ?_⟩
    · rcases get i hi with ⟨e, e1⟩ | ⟨e, e1⟩ | ⟨e, e1⟩
      · have e' : i < L.length := by omega
        rw [e1, List.getElem_append_left e']
        exact (h2 i e e').grown k2 (h4 i e)
      · rw [e1]
        have : (L ++ [xs, ys])[i] = xs := by subst e; simp [hvl]
        rw [this]
        exact (hu1.weaken hB).grown k2 (uv _ _ hu1)
      · rw [e1]
        have : (L ++ [xs, ys])[i] = ys := by subst e; simp [hvl]
        rw [this]
        exact (hu2.weaken hB).grown k2 (uv _ _ hu2)
    · rcases get i hi with ⟨e, e1⟩ | ⟨e, e1⟩ | ⟨e, e1⟩ <;> rcases get j hj with ⟨f, f1⟩ | ⟨f, f1⟩ | ⟨f, f1⟩ <;> rw [e1, f1]
      · exact h3 i j e f hij
      · exact far i e _ _ hu1
      · exact far i e _ _ hu2
      · exact (far j f _ _ hu1).symm
      · omega
      · exact h12
      · exact (far j f _ _ hu2).symm
      · exact h12.symm
      · omega
    · rcases get i hi with ⟨e, e1⟩ | ⟨e, e1⟩ | ⟨e, e1⟩ <;> rw [e1]
      · exact ((h4 i e).symm.app (h2 i e (by omega)).blt k3).symm
      · exact ((uv _ _ hu1).symm.app hu1.blt k3).symm
      · exact ((uv _ _ hu2).symm.app hu2.blt k3).symm
def gTop (L : List (List Int)) (row : List Int) : List Int := row.flatMap fun i => (L.getD i.toNat []).take 2
def gBot (L : List (List Int)) (row : List Int) : List Int := row.flatMap fun i => (L.getD i.toNat []).drop 2
def grownL (L rows : List (List Int)) : List (List Int) := rows.flatMap fun r => [gTop L r, gBot L r]
def NumsIn (N : Nat) (rows : List (List Int)) : Prop := ∀ k (h : k < rows.length) j (hj : j < rows[k].length), 0 ≤ rows[k][j] ∧ rows[k][j] < N
theorem gTop_succ {L : List (List Int)} {row : List Int} {k m : Nat} {b0 b1 b2 b3 : Int} (hk : k < row.length) (hm : row[k] = (m : Int)) (h : m < L.length) (e : L[m] = [b0, b1, b2, b3]) :
    gTop L (row.take (k + 1)) = gTop L (row.take k) ++ [b0, b1] ∧ gBot L (row.take (k + 1)) = gBot L (row.take k) ++ [b2, b3] := by
  unfold gTop gBot; rw [List.take_succ_eq_append_getElem hk, List.flatMap_append, List.flatMap_append]
  simp [hm, h, e]
theorem gTop_len {N : Nat} {L : List (List Int)} (hB : Blocks N L) {row : List Int} (hr : ∀ j (hj : j < row.length), 0 ≤ row[j] ∧ row[j] < N) : (gTop L row).length = 2 * row.length ∧ (gBot L row).length = 2 * row.length := by
  induction row with
  | nil => simp [gTop, gBot]
  | cons x xs ih =>
    obtain ⟨i1, i2⟩ := ih (fun j hj => hr (j + 1) (by simpa using hj))
    obtain ⟨x0, x1⟩ := hr 0 (by simp)
    simp only [List.getElem_cons_zero] at x0 x1
    obtain ⟨m, rfl⟩ := Int.eq_ofNat_of_zero_le x0
    have hm : m < L.length := by rw [hB.1]; omega
    have h4 := (hB.2 m hm).1
    have e1 : gTop L ((m : Int) :: xs) = (L.getD m []).take 2 ++ gTop L xs := rfl
    have e2 : gBot L ((m : Int) :: xs) = (L.getD m []).drop 2 ++ gBot L xs := rfl
    have e3 : L.getD m [] = L[m] := by simp [hm]
    rw [e1, e2, e3, List.length_append, List.length_append, i1, i2, List.length_take, List.length_drop, h4, List.length_cons]
    omega
theorem grownL_succ {L rows : List (List Int)} {k : Nat} (hk : k < rows.length) : grownL L (rows.take (k + 1)) = grownL L (rows.take k) ++ [gTop L rows[k], gBot L rows[k]] := by
  unfold grownL; rw [List.take_succ_eq_append_getElem hk, List.flatMap_append]; simp
theorem grownL_len (L rows : List (List Int)) : (grownL L rows).length = 2 * rows.length := by
  unfold grownL
  induction rows with
  | nil => rfl
  | cons r rs ih => rw [List.flatMap_cons, List.length_append, ih]; simp; omega
theorem four_of {xs : List Int} (h : xs.length = 4) : ∃ a b c d, xs = [a, b, c, d] := by
  match xs, h with
  | [a, b, c, d], _ => exact ⟨a, b, c, d, rfl⟩
theorem OwnI.emptyAt {w : World} {B g : Nat} (hg : w.heap.size = g) (hB : B ≤ w.heap.size) : OwnI (w.alloc (.cells #[] 2)) B (.slice (some ⟨g, 0, none⟩) 0 0) [] := OwnI.newly hg rfl rfl hB (by simp)
set_option maxRecDepth 100000 in
set_option maxHeartbeats 1000000 in
theorem grown_c (L : List (List Int)) (B : Option Addr) (cr : Nat) (rows : List (List Int)) (R : Option Addr) (cR N : Nat) (w : World) (hR : RowsC w B L) (hK : CapsC w B L) (hB : Blocks N L) (hM : RowsC w R rows) (hI : NumsIn N rows) (hl : rows.length ≤ 1000) (hs : Short 1000 rows) :
    Calls Try.prog 28 #[.slice B L.length cr, .slice R rows.length cR] w fun e w' => ∃ v, e = .returned v ∧ OwnII w' w.heap.size v (grownL L rows) ∧ Below w.heap.size w w' := by
  have HR := Lib.hid hR
  have HK := Lib.hid hK
  have HB := Lib.hid hB
  have HM := Lib.hid hM
  have HI := Lib.hid hI
  have HSh := Lib.hid hs
  clear hR hK hB hM hI hs
  go_enter Try.func28, Try.ntmps28
  go_wp2_with fail
  go_loopw [5, 15] (fun v i wr => ∃ k : Nat, k ≤ rows.length ∧ i = .int .i64 k ∧ OwnII wr w.heap.size v (grownL L (rows.take k)) ∧ Below w.heap.size w wr) (fun _ i _ => rows.length - (intOf i).toNat)
  case atStart => exact ⟨0, by omega, rfl, OwnII.empty rfl (Nat.le_refl _), by (repeat (first | (with_reducible exact Below.refl _ _) | (with_reducible assumption) | (with_reducible refine below_al ?_) | (with_reducible refine below_dr ?_) | (with_reducible refine below_drN ?_) | (with_reducible refine below_set ?_ (by first | exact Nat.le_refl _ | (dsimp only; omega) | omega)) | (with_reducible refine below_tr (by with_reducible assumption) ?_)))⟩
  case round =>
    obtain ⟨k, hk, rfl, hO, hb⟩ := hrel
    obtain ⟨w0, rfl⟩ : ∃ w0, w0 = wr := ⟨wr, rfl⟩
    have HO := Lib.hid hO
    have Hb := Lib.hid hb
    by_cases h1 : k < rows.length
    · obtain ⟨b, off, A1, c1, e1, hlt, c0, r1⟩ := (HM.out.below hb) k h1
      have HS := Lib.hid (grownL_succ (L := L) h1)
      have hrow := HI.out k h1
      have hrl := HSh.out k h1
      have HGL : (grownL L (rows.take k)).length ≤ 2000 := by rw [grownL_len]; simp; omega
      subst e1
      generalize hrr : rows[k] = row at *
      have HRow := Lib.hid hrow
      have R1 := Lib.hid r1
      have HTL := Lib.hid (fun j => gTop_len HB.out (row := row.take j) (fun q hq => by have := hrow q (by simp at hq; omega); simpa using this))
      clear hrr hO hb hrow r1
      go_wp2_with fail
      go_loopw [8, 9, 23] (fun va vb i wz => ∃ j : Nat, j ≤ row.length ∧ i = .int .i64 j ∧ OwnI wz w0.heap.size va (gTop L (row.take j)) ∧ OwnI wz w0.heap.size vb (gBot L (row.take j)) ∧ Apart va vb ∧ Below w0.heap.size w0 wz) (fun _ _ i _ => row.length - (intOf i).toNat)
      case atStart => exact ⟨0, by omega, rfl, (OwnI.emptyAt rfl (Nat.le_refl _)).alloc _, OwnI.emptyAt (by simp) (by simp), Apart.blk (by omega), by (repeat (first | (with_reducible exact Below.refl _ _) | (with_reducible assumption) | (with_reducible refine below_al ?_) | (with_reducible refine below_dr ?_) | (with_reducible refine below_drN ?_) | (with_reducible refine below_set ?_ (by first | exact Nat.le_refl _ | (dsimp only; omega) | omega)) | (with_reducible refine below_tr (by with_reducible assumption) ?_)))⟩
      case round =>
        obtain ⟨j, hj, rfl, hOa, hOb, hAp, hb2⟩ := hrel
        have Hb2 := Lib.hid hb2
        by_cases hjr : j < row.length
        · obtain ⟨b3, off3, e3, hlt3, d0⟩ := (R1.out.below hb2).int j hjr
          obtain ⟨x0, x1⟩ := HRow.out j hjr
          obtain ⟨m, hm⟩ := Int.eq_ofNat_of_zero_le x0
          have hmL : m < L.length := by rw [HB.out.1]; omega
          obtain ⟨b4, off4, A2, c2, e4, hlt4, f0, r2⟩ := (HR.out.below Hb.out) m hmL
          have h4 := (HB.out.2 m hmL).1
          have hcap := (HK.out.below HR.out Hb.out) m hmL b4 off4 A2 c2 e4 f0
          obtain ⟨y0, y1, y2, y3, hy⟩ := four_of h4
          obtain ⟨s1, s2⟩ := gTop_succ hjr hm hmL hy
          have HS1 := Lib.hid s1
          have HS2 := Lib.hid s2
          obtain ⟨l1, l2⟩ := HTL.out j
          have LA : (gTop L (row.take j)).length ≤ 2000 := by rw [l1]; simp; omega
          have LB : (gBot L (row.take j)).length ≤ 2000 := by rw [l2]; simp; omega
          rw [h4] at f0 hcap
          rw [hy] at r2
          have at_ := fun (q : Nat) (hq : q < 4) => r2.int q (by simpa using hq)
          obtain ⟨b5, off5, e5, hlt5, p0⟩ := at_ 0 (by omega)
          have p1 := at_ 1 (by omega)
          have p2 := at_ 2 (by omega)
          have p3 := at_ 3 (by omega)
          subst e5
          obtain ⟨_, _, q1, _, p1⟩ := p1
          injection q1 with q1; injection q1 with q1 q1'; subst q1 q1'
          obtain ⟨_, _, q2, _, p2⟩ := p2
          injection q2 with q2; injection q2 with q2 q2'; subst q2 q2'
          obtain ⟨_, _, q3, _, p3⟩ := p3
          injection q3 with q3; injection q3 with q3 q3'; subst q3 q3'
          simp only [List.getElem_cons_zero, List.getElem_cons_succ, Nat.add_zero] at p0 p1 p2 p3
          have P0 := Lib.hid (keepC p0)
          have P1 := Lib.hid (keepC p1)
          have P2 := Lib.hid (keepC p2)
          have P3 := Lib.hid (keepC p3)
          have g0 := keepC f0
          rw [hm] at d0
          subst e3 e4
          have hc2 : 2 ≤ c2 := by omega
          have hc4 : 4 ≤ c2 := hcap
          have hci : (2 : Int) ≤ (c2 : Int) := by omega
          have hn0 : ¬ c2 = 0 := by omega
          have hn2 : ¬ c2 = 2 := by omega
          clear hb2 x0 x1 hm s1 s2 l1 l2 r2 at_ p0 p1 p2 p3 f0 h4 hy hcap
          have hws := Hb2.out.size
          have hO1 := Lib.hid hOa
          have hO2 := Lib.hid hOb
          have HAp := Lib.hid hAp
          clear hOa hOb hAp
          go_wp2_with fail
          refine wp_region_mix [(0, true), (1, true), (2, true), (3, true), (4, true), (5, true), (7, true), (8, true), (9, true), (10, true), (11, true), (12, true), (6, false), (13, false), (14, true), (15, true)] (fun w' => Below (w0).heap.size (w0) w') (by kernel_rfl) (by kernel_rfl) (fun _ _ d _ _ h => by cases d <;> exact h) (Hb2.out.drew) ?_
          repeat (first
            | (refine mix_skip rfl rfl (fun K' hK' => ?_); go_simp; refine hK' _ ?_; clear hK' K')
            | (refine mix_do (v := ?_) rfl rfl (fun w1 hb => ?_) (fun K' hK' => ?_); rotate_left
               · go_simp
                 rfl
               go_simp; refine hK' _ ?_; clear hK' K'))
          refine mix_call rfl rfl (fun K' hK' => ?_)
          refine app_intsN (.tmp 27) (.tmp 32) rfl w0.heap.size u8 _ [y0, y1] rfl hO1.out.drew b5 off5 c2 (by go_simp) (fun q hq => ?_) (by simp; omega) (by simpa using hws) (fun va' w1 k1 k2 k3 => ?_)
          · rcases q with _ | _ | q
            · exact P0.out _ Hb2.out.drew
            · exact P1.out _ Hb2.out.drew
            · exact absurd hq (by simp)
          rw [← HS1.out] at k1
          have hU2 : OwnI w1 w0.heap.size u9 (gBot L (row.take j)) := hO2.out.drew.grown k2 HAp.out.symm
          have hA2 : Apart va' u9 := HAp.out.app hO2.out.drew.blt k3
          have h5 : Below w0.heap.size w0 w1 := Below.grown Hb2.out.drew k2 hws (fun q hq => (World.ownsRow.lt hO1.out q hq).1)
          clear k2 k3
          refine hK' _ _ h5 ?_
          clear hK' K'
          refine mix_call rfl rfl (fun K' hK' => ?_)
          refine app_intsN (.tmp 34) (.tmp 39) rfl w0.heap.size u9 _ [y2, y3] rfl hU2 b5 (off5 + 2) (c2 - 2) (by go_simp) (fun q hq => ?_) (by simp; omega) h5.size (fun vb' w2 m1 m2 m3 => ?_)
          · rcases q with _ | _ | q
            · exact P2.out _ h5
            · exact P3.out _ h5
            · exact absurd hq (by simp)
          rw [← HS2.out] at m1
          have hV1 : OwnI w2 w0.heap.size va' (gTop L (row.take (j + 1))) := k1.grown m2 hA2
          have hA3 : Apart va' vb' := (hA2.symm.app k1.blt m3).symm
          have h6 : Below w0.heap.size w0 w2 := Below.grown h5 m2 h5.size (fun q hq => (World.ownsRow.lt hU2 q hq).1)
          clear m2 m3 hU2 hA2 k1
          refine hK' _ _ h6 ?_
          clear hK' K' h5
          repeat (first
            | (refine mix_skip rfl rfl (fun K' hK' => ?_); go_simp; refine hK' _ ?_; clear hK' K')
            | (refine mix_do (v := ?_) rfl rfl (fun w1 hb => ?_) (fun K' hK' => ?_); rotate_left
               · go_simp
                 rfl
               go_simp; refine hK' _ ?_; clear hK' K'))
          refine mix_nil ?_
          go_wp2_with fail
          go_roundw
          case rel => exact ⟨j + 1, by omega, by go_num, hV1, m1, hA3, h6⟩
          case measure => simp [intOf]; omega
        · obtain rfl : j = row.length := by omega
          rw [List.take_length] at hOa hOb
          obtain ⟨A6, cx6, rfl, -, -⟩ := hOa.shape
          obtain ⟨A7, cx7, rfl, -, -⟩ := hOb.shape
          have hO1 := Lib.hid hOa
          have hO2 := Lib.hid hOb
          have HAp := Lib.hid hAp
          clear hOa hOb hAp hb2
          go_wp2_with (at_builtin; refine Hold.of ?_)
          refine Hold.to ?_
          refine wpl_app_row2 (W0 := w0) rfl (.tmp 42) (.tmp 45) rfl w.heap.size u5 _ _ _ _ _ rfl HO.out (below_al Hb2.out) (hO1.out.alloc _) (hO2.out.alloc _) HAp.out wr.heap.size 0 2 rfl (cell_alloc_at _ _ _ _ _ rfl) (cell_alloc_at _ _ _ _ _ rfl) (by omega) Hb.out.size (fun v' w' h1 h2 h3 => ?_)
          rw [← HS.out] at h1
          have h4 : Below w.heap.size w w' := Below.grown (below_al (Hb.out.trans (Hb2.out.mono Hb.out.size))) h2 (by have h5 := Hb2.out.size; have h6 := Hb.out.size; simp; omega) h3
          have HO4 := Lib.hid h1
          have H4 := Lib.hid h4
          clear h1 h2 h3 h4
          go_wp2_with fail
          go_roundw
          case rel => exact ⟨k + 1, by omega, by go_num, HO4.out, H4.out⟩
          case measure => simp [intOf]; omega
    · obtain rfl : k = rows.length := by omega
      clear hO hb
      rw [List.take_length] at HO
      go_wp2_with fail
      go_ret
      exact ⟨_, rfl, HO.out, Hb.out⟩
set_option maxRecDepth 100000 in
set_option maxHeartbeats 1000000 in
theorem l09Grow_c (L : List (List Int)) (B : Option Addr) (cr : Nat) (rows : List (List Int)) (R : Option Addr) (cR N : Nat) (w : World) (hR : RowsC w B L) (hB : Blocks N L) (hM : RowsC w R rows) (hI : NumsIn N rows) (hl : rows.length ≤ 1000) (hs : Short 1000 rows) :
    Calls Try.prog 30 #[.slice B L.length cr, .slice R rows.length cR] w fun e w' => ∃ v, e = .returned v ∧ OwnII w' w.heap.size v (grownL L rows) ∧ Below w.heap.size w w' := by
  have HR := Lib.hid hR
  have HB := Lib.hid hB
  have HM := Lib.hid hM
  have HI := Lib.hid hI
  have HSh := Lib.hid hs
  clear hR hB hM hI hs
  go_enter Try.func30, Try.ntmps30
  go_wp2_with fail
  go_loopw [5, 6] (fun v i wr => ∃ k : Nat, k ≤ rows.length ∧ i = .int .i64 k ∧ OwnII wr w.heap.size v (grownL L (rows.take k)) ∧ Below w.heap.size w wr) (fun _ i _ => rows.length - (intOf i).toNat)
  case atStart => exact ⟨0, by omega, rfl, OwnII.empty rfl (Nat.le_refl _), by (repeat (first | (with_reducible exact Below.refl _ _) | (with_reducible assumption) | (with_reducible refine below_al ?_) | (with_reducible refine below_dr ?_) | (with_reducible refine below_drN ?_) | (with_reducible refine below_set ?_ (by first | exact Nat.le_refl _ | (dsimp only; omega) | omega)) | (with_reducible refine below_tr (by with_reducible assumption) ?_)))⟩
  case round =>
    obtain ⟨k, hk, rfl, hO, hb⟩ := hrel
    obtain ⟨w0, rfl⟩ : ∃ w0, w0 = wr := ⟨wr, rfl⟩
    have HO := Lib.hid hO
    have Hb := Lib.hid hb
    by_cases h1 : k < rows.length
    · obtain ⟨b, off, A1, c1, e1, hlt, c0, r1⟩ := (HM.out.below hb) k h1
      have HS := Lib.hid (grownL_succ (L := L) h1)
      have hrow := HI.out k h1
      have hrl := HSh.out k h1
      have HGL : (grownL L (rows.take k)).length ≤ 2000 := by rw [grownL_len]; simp; omega
      have C0 := Lib.hid (keepC c0)
      subst e1
      generalize hrr : rows[k] = row at *
      have HRow := Lib.hid hrow
      have R1 := Lib.hid r1
      have HTL := Lib.hid (fun j => gTop_len HB.out (row := row.take j) (fun q hq => by have := hrow q (by simp at hq; omega); simpa using this))
      clear hrr hO hb hrow r1 c0
      go_wp2_with fail
      go_loopw [7, 8, 9] (fun va vb i wz => ∃ j : Nat, j ≤ row.length ∧ i = .int .i64 j ∧ OwnI wz w0.heap.size va (gTop L (row.take j)) ∧ OwnI wz w0.heap.size vb (gBot L (row.take j)) ∧ Apart va vb ∧ Below w0.heap.size w0 wz) (fun _ _ i _ => row.length - (intOf i).toNat)
      case atStart => exact ⟨0, by omega, rfl, (OwnI.emptyAt rfl (Nat.le_refl _)).alloc _, OwnI.emptyAt (by simp) (by simp), Apart.blk (by omega), by (repeat (first | (with_reducible exact Below.refl _ _) | (with_reducible assumption) | (with_reducible refine below_al ?_) | (with_reducible refine below_dr ?_) | (with_reducible refine below_drN ?_) | (with_reducible refine below_set ?_ (by first | exact Nat.le_refl _ | (dsimp only; omega) | omega)) | (with_reducible refine below_tr (by with_reducible assumption) ?_)))⟩
      case round =>
        obtain ⟨j, hj, rfl, hOa, hOb, hAp, hb2⟩ := hrel
        have Hb2 := Lib.hid hb2
        have c0 := C0.out _ hb2
        by_cases hjr : j < row.length
        · obtain ⟨b3, off3, e3, hlt3, d0⟩ := (R1.out.below hb2).int j hjr
          obtain ⟨x0, x1⟩ := HRow.out j hjr
          obtain ⟨m, hm⟩ := Int.eq_ofNat_of_zero_le x0
          have hmL : m < L.length := by rw [HB.out.1]; omega
          obtain ⟨b4, off4, A2, c2, e4, hlt4, f0, r2⟩ := (HR.out.below Hb.out) m hmL
          have h4 := (HB.out.2 m hmL).1
          obtain ⟨y0, y1, y2, y3, hy⟩ := four_of h4
          obtain ⟨s1, s2⟩ := gTop_succ hjr hm hmL hy
          have HS1 := Lib.hid s1
          have HS2 := Lib.hid s2
          obtain ⟨l1, l2⟩ := HTL.out j
          have LA : (gTop L (row.take j)).length ≤ 2000 := by rw [l1]; simp; omega
          have LB : (gBot L (row.take j)).length ≤ 2000 := by rw [l2]; simp; omega
          rw [h4] at f0
          rw [hy] at r2
          have at_ := fun (q : Nat) (hq : q < 4) => r2.int q (by simpa using hq)
          obtain ⟨b5, off5, e5, hlt5, p0⟩ := at_ 0 (by omega)
          have p1 := at_ 1 (by omega)
          have p2 := at_ 2 (by omega)
          have p3 := at_ 3 (by omega)
          subst e5
          obtain ⟨_, _, q1, _, p1⟩ := p1
          injection q1 with q1; injection q1 with q1 q1'; subst q1 q1'
          obtain ⟨_, _, q2, _, p2⟩ := p2
          injection q2 with q2; injection q2 with q2 q2'; subst q2 q2'
          obtain ⟨_, _, q3, _, p3⟩ := p3
          injection q3 with q3; injection q3 with q3 q3'; subst q3 q3'
          simp only [List.getElem_cons_zero, List.getElem_cons_succ, Nat.add_zero] at p0 p1 p2 p3
          have P0 := keepC p0
          have P1 := keepC p1
          have P2 := keepC p2
          have P3 := keepC p3
          have f0' := keepC f0 _ hb2
          rw [hm] at d0
          subst e3 e4
          have hws := hb2.size
          have hO1 := Lib.hid hOa
          have hO2 := Lib.hid hOb
          have HAp := Lib.hid hAp
          clear hb2 x0 x1 hm s1 s2 l1 l2 r2 at_ p0 p1 p2 p3 f0 h4 hy hOa hOb hAp
          go_wp2_with fail
          clear f0' d0 c0
          refine wp_region_mix [(0, true), (1, true), (2, true), (3, true), (4, true), (5, true), (6, true), (7, false), (8, false), (9, false)] (fun w' => Below (w0).heap.size (w0) w') (by kernel_rfl) (by kernel_rfl) (fun _ _ d _ _ h => by cases d <;> exact h) (Hb2.out.drew) ?_
          repeat (first
            | (refine mix_skip rfl rfl (fun K' hK' => ?_); go_simp; refine hK' _ ?_; clear hK' K')
            | (refine mix_do (v := ?_) rfl rfl (fun w1 hb => ?_) (fun K' hK' => ?_); rotate_left
               · go_simp
                 rfl
               go_simp; refine hK' _ ?_; clear hK' K'))
          refine mix_call rfl rfl (fun K' hK' => ?_)
          go_simp
          refine hK' _ _ (Below.alloc Hb2.out.drew hws _) ?_; clear hK' K'
          refine mix_call rfl rfl (fun K' hK' => ?_)
          refine app_intsN (.tmp 39) (.tmp 46) rfl w0.heap.size u7 _ [y0, y1] rfl (hO1.out.drew.alloc _) wr.heap.size 0 2 rfl (fun q hq => ?_) (by simp; omega) (by simp; omega) (fun va' w1 k1 k2 k3 => ?_)
          · rcases q with _ | _ | q
            · exact cell_alloc_at _ _ _ _ _ rfl
            · exact cell_alloc_at _ _ _ _ _ rfl
            · exact absurd hq (by simp)
          rw [← HS1.out] at k1
          have hU2 : OwnI w1 w0.heap.size u8 (gBot L (row.take j)) := (hO2.out.drew.alloc _).grown k2 HAp.out.symm
          have hA2 : Apart va' u8 := HAp.out.app (hO2.out.drew.alloc _).blt k3
          have h5 : Below w0.heap.size w0 w1 := Below.grown (Below.alloc Hb2.out.drew hws _) k2 (by simp; omega) (fun q hq => (World.ownsRow.lt hO1.out q hq).1)
          clear k2 k3
          refine hK' _ _ h5 ?_
          clear hK' K'
          refine mix_call rfl rfl (fun K' hK' => ?_)
          go_simp
          refine hK' _ _ (h5) ?_; clear hK' K'
          refine mix_nil ?_
          have hws5 := h5.size
          go_wp2_with fail
          refine wp_region_mix [(0, true), (1, true), (2, true), (3, true), (4, true), (5, true), (6, true), (7, false), (8, false), (9, false)] (fun w' => Below (w0).heap.size (w0) w') (by kernel_rfl) (by kernel_rfl) (fun _ _ d _ _ h => by cases d <;> exact h) (h5.drew) ?_
          repeat (first
            | (refine mix_skip rfl rfl (fun K' hK' => ?_); go_simp; refine hK' _ ?_; clear hK' K')
            | (refine mix_do (v := ?_) rfl rfl (fun w1 hb => ?_) (fun K' hK' => ?_); rotate_left
               · go_simp
                 rfl
               go_simp; refine hK' _ ?_; clear hK' K'))
          refine mix_call rfl rfl (fun K' hK' => ?_)
          go_simp
          refine hK' _ _ (Below.alloc h5.drew hws5 _) ?_; clear hK' K'
          refine mix_call rfl rfl (fun K' hK' => ?_)
          refine app_intsN (.tmp 48) (.tmp 55) rfl w0.heap.size u8 _ [y2, y3] rfl (hU2.drew.alloc _) w1.heap.size 0 2 rfl (fun q hq => ?_) (by simp; omega) (by simp; omega) (fun vb' w2 m1 m2 m3 => ?_)
          · rcases q with _ | _ | q
            · exact cell_alloc_at _ _ _ _ _ rfl
            · exact cell_alloc_at _ _ _ _ _ rfl
            · exact absurd hq (by simp)
          rw [← HS2.out] at m1
          have hV1 : OwnI w2 w0.heap.size va' (gTop L (row.take (j + 1))) := (k1.drew.alloc _).grown m2 hA2
          have hA3 : Apart va' vb' := (hA2.symm.app (k1.drew.alloc _).blt m3).symm
          have h6 : Below w0.heap.size w0 w2 := Below.grown (Below.alloc h5.drew hws5 _) m2 (by simp; omega) (fun q hq => (World.ownsRow.lt hU2 q hq).1)
          clear m2 m3 hU2 hA2 k1 h5
          refine hK' _ _ h6 ?_
          clear hK' K'
          refine mix_call rfl rfl (fun K' hK' => ?_)
          go_simp
          refine hK' _ _ (h6) ?_; clear hK' K'
          refine mix_nil ?_
          go_wp2_with fail
          go_roundw
          case rel => exact ⟨j + 1, by omega, by go_num, hV1, m1, hA3, h6⟩
          case measure => simp [intOf]; omega
        · obtain rfl : j = row.length := by omega
          rw [List.take_length] at hOa hOb
          obtain ⟨A6, cx6, rfl, -, -⟩ := hOa.shape
          obtain ⟨A7, cx7, rfl, -, -⟩ := hOb.shape
          have hO1 := Lib.hid hOa
          have hO2 := Lib.hid hOb
          have HAp := Lib.hid hAp
          clear hOa hOb hAp hb2
          go_wp2_with (at_builtin; refine Hold.of ?_)
          refine Hold.to ?_
          refine wpl_app_row2 (W0 := w0) rfl (.tmp 57) (.tmp 60) rfl w.heap.size u5 _ _ _ _ _ rfl HO.out (below_al Hb2.out) (hO1.out.alloc _) (hO2.out.alloc _) HAp.out wr.heap.size 0 2 rfl (cell_alloc_at _ _ _ _ _ rfl) (cell_alloc_at _ _ _ _ _ rfl) (by omega) Hb.out.size (fun v' w' h1 h2 h3 => ?_)
          rw [← HS.out] at h1
          have h4 : Below w.heap.size w w' := Below.grown (below_al (Hb.out.trans (Hb2.out.mono Hb.out.size))) h2 (by have h5 := Hb2.out.size; have h6 := Hb.out.size; simp; omega) h3
          have HO4 := Lib.hid h1
          have H4 := Lib.hid h4
          clear h1 h2 h3 h4 c0
          go_wp2_with fail
          go_roundw
          case rel => exact ⟨k + 1, by omega, by go_num, HO4.out, H4.out⟩
          case measure => simp [intOf]; omega
    · obtain rfl : k = rows.length := by omega
      clear hO hb
      rw [List.take_length] at HO
      go_wp2_with fail
      go_ret
      exact ⟨_, rfl, HO.out, Hb.out⟩

end Go.Proofs.Ytkgnejhflnekaaa
