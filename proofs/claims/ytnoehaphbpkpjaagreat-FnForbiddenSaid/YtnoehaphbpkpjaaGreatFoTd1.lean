/- Contracts and lemmas for the statements of this seat, written for this claim; each theorem states its own conditions. -/
import Derived.Test.YtnoehaphbpkpjaaGreatFoSz
import Derived.Test.YtnoehaphbpkpjaaGreatFoBy
set_option linter.unusedVariables false
set_option linter.unusedSimpArgs false
namespace Go.Proofs.YtnoehaphbpkpjaaGreat
open Go.RowKit
attribute [local go_sem] addUpon_value addUpon_skip addUpon_enter
theorem OwnBB.one {w : World} {B n cx : Nat} {A : Option Addr} {xs : List Bool} (hO : OwnB w B (.slice A n cx) xs) (hB : B ≤ w.heap.size) :
    OwnBB (w.alloc (.cells #[.slice A n cx] 91)) B (.slice (some ⟨w.heap.size, 0, none⟩) 1 1) [xs] := by
  refine ⟨[.slice A n cx], ?_, fun i h h' => ?_, fun i j h h' hij => ?_, fun i h => ?_⟩
  · have := World.ownsRow_lit (base := B) (e := 91) (size := 1) w #[.slice A n cx] 1 hB (by simp [maxLen]) (by simp)
    simpa using this
  · have hi : i = 0 := by simp at h; omega
    subst hi
    exact hO.below (below_al (Below.refl _ _))
  · simp at h h'; omega
  · have hi : i = 0 := by simp at h; omega
    subst hi
    cases e : (Value.slice A n cx).ownBlock with
    | none => exact .inl e
    | some k => right; rw [List.getElem_cons_zero, e]; intro e2; have h8 := (hO.lt k e).2; have e3 : some k = some w.heap.size := e2; injection e3 with e3; omega
/-- a step back: from where a column leads to one of some words -/
def bstep (far nx : List Bool) (k : Col) : List Bool := if far.getD k.e.toNat false = true then nx.set k.w.toNat true else nx
def bgo (S : Nat) (cols : List Col) (far : List Bool) : List Bool := cols.foldl (bstep far) (List.replicate S false)
def farAt (S : Nat) (cols : List Col) : Nat → List Bool
  | 0 => List.replicate S true
  | i + 1 => bgo S cols (farAt S cols i)
def farL (S : Nat) (cols : List Col) (n : Nat) : List (List Bool) := (List.range (n + 1)).map (farAt S cols)
theorem bstep_len (far nx : List Bool) (k : Col) : (bstep far nx k).length = nx.length := by unfold bstep; split <;> simp
theorem bgo_len (S : Nat) (cols : List Col) (far : List Bool) : (bgo S cols far).length = S := by
  unfold bgo
  suffices ∀ nx : List Bool, (cols.foldl (bstep far) nx).length = nx.length by rw [this]; simp
  intro nx
  induction cols generalizing nx with
  | nil => rfl
  | cons k l ih => rw [List.foldl_cons, ih, bstep_len]
theorem farAt_len (S : Nat) (cols : List Col) : ∀ i, (farAt S cols i).length = S
  | 0 => by simp [farAt]
  | _ + 1 => bgo_len ..
theorem farL_len (S : Nat) (cols : List Col) (n : Nat) : (farL S cols n).length = n + 1 := by simp [farL]
theorem farL_get (S : Nat) (cols : List Col) (n i : Nat) (h : i < (farL S cols n).length) : (farL S cols n)[i] = farAt S cols i := by simp [farL]
theorem farL_succ (S : Nat) (cols : List Col) (n : Nat) : farL S cols (n + 1) = farL S cols n ++ [farAt S cols (n + 1)] := by simp [farL, List.range_succ]
theorem bgo_take (S : Nat) (cols : List Col) (far : List Bool) (j : Nat) (hj : j < cols.length) : bgo S (cols.take (j + 1)) far = bstep far (bgo S (cols.take j) far) cols[j] := by
  unfold bgo; rw [List.take_succ_eq_append_getElem hj, List.foldl_append]; rfl
theorem bstep_eq (far nx : List Bool) (k : Col) (h : k.e.toNat < far.length) : bstep far nx k = if far[k.e.toNat] = true then nx.set k.w.toNat true else nx := by
  unfold bstep; simp [h]
set_option maxRecDepth 100000 in
set_option maxHeartbeats 1000000 in
theorem l10Far_c (cols : List Col) (Ac : Option Addr) (kc S n : Nat) (w : World) (hS1 : 1 ≤ S) (hS2 : S ≤ 100000) (hC : Codes S cols) (hcl : cols.length ≤ 1000000) (hn : n ≤ 100) (hR : RowsC w Ac (crows cols)) :
    Calls Tryz.prog 121 #[.slice Ac cols.length kc, .int .i64 S, .int .i64 n] w fun e w' => ∃ v, e = .returned v ∧ OwnBB w' w.heap.size v (farL S cols n) ∧ Below w.heap.size w w' := by
  have HR := Lib.hid hR
  have HC := Lib.hid hC
  have hm := fun w => make_b S (by omega) w
  clear hR hC
  go_enter Tryz.func121, Tryz.ntmps121
  go_wp2_with fail
  go_loopw [8] (fun iv wr => ∃ q : Nat, q ≤ S ∧ iv = .int .i64 q ∧ Hid (OwnB wr w.heap.size (.slice (some ⟨w.heap.size, 0, none⟩) S S) (repB S q)) ∧ Hid (Below w.heap.size w wr)) (fun i _ => S - (intOf i).toNat)
  case atStart => exact ⟨0, by omega, rfl, Lib.hid (by simpa [repB] using OwnB.made w w.heap.size S (Nat.le_refl _) (by omega)), Lib.hid (by (repeat (first | (with_reducible exact Below.refl _ _) | (with_reducible assumption) | (with_reducible refine below_al ?_) | (with_reducible refine below_dr ?_) | (with_reducible refine below_drN ?_) | (with_reducible refine below_set ?_ (by first | exact Nat.le_refl _ | (dsimp only; omega) | omega)) | (with_reducible refine below_tr (by with_reducible assumption) ?_))))⟩
  case round =>
    obtain ⟨q, hq, rfl, HOq, HBq⟩ := hrel
    by_cases hqS : q < S
    · obtain ⟨g4, hg4, _, gl, n1, n2⟩ := HOq.out.at_ q (by rw [repB_len hq]; exact hqS)
      injection hg4 with hg4; injection hg4 with hg4 _; subst hg4
      have HF := Lib.hid ((HOq.out.set q true).1)
      rw [repB_set hqS] at HF
      generalize (repB S q)[q]'_ = z at n1
      clear hm
      go_wp2
      go_roundw
      case rel => exact ⟨q + 1, by omega, by go_num, HF, Lib.hid (HBq.out.setCell (Nat.le_refl _) _)⟩
      case measure => simp [intOf]; omega
    · obtain rfl : q = S := by omega
      rw [repB_all] at HOq
      have HO1 := Lib.hid (OwnBB.one HOq.out HBq.out.size)
      go_wp2_with fail
      clear hm
      go_loopw [9, 10] (fun v iv wr => ∃ i : Nat, i ≤ n ∧ iv = .int .i64 i ∧ Hid (OwnBB wr w.heap.size v (farL q cols i)) ∧ Hid (Below w.heap.size w wr)) (fun _ i _ => n - (intOf i).toNat)
      case atStart => exact ⟨0, by omega, rfl, Lib.hid (by simpa [farL, farAt] using HO1.out), Lib.hid (by have h3 := HBq.out; (repeat (first | (with_reducible exact Below.refl _ _) | (with_reducible assumption) | (with_reducible refine below_al ?_) | (with_reducible refine below_dr ?_) | (with_reducible refine below_drN ?_) | (with_reducible refine below_set ?_ (by first | exact Nat.le_refl _ | (dsimp only; omega) | omega)) | (with_reducible refine below_tr (by with_reducible assumption) ?_))))⟩
      case round =>
        obtain ⟨i, hi, rfl, HOi, HBi⟩ := hrel
        obtain ⟨wj, rfl⟩ : ∃ wj, wj = wr := ⟨wr, rfl⟩
        obtain ⟨An, kn, rfl, hrd⟩ := HOi.out.rows
        by_cases hin : i < n
        · have hm := fun w => make_b q (by omega) w
          obtain ⟨bi, offi, Ai, ki, rfl, hli, ci, ri⟩ := hrd i (by rw [farL_len]; omega)
          have HFa := Lib.hid (show farAt q cols (i + 1) = bgo q cols (farAt q cols i) from rfl)
          rw [farL_get] at ci ri
          have hlen := farAt_len q cols i
          generalize farAt q cols i = far at *
          have HRi := Lib.hid ri
          have HLn := Lib.hid hlen
          have HL1 := Lib.hid (farL_len q cols i)
          rw [hlen] at ci
          have CI := Lib.hid (keepC ci)
          have HRc := Lib.hid (HR.out.below HBi.out)
          clear hlen ri hrd
          obtain ⟨nl, hnl⟩ : ∃ nl, (farL q cols i).length = nl := ⟨_, rfl⟩
          have HNl := Lib.hid hnl
          have hil : i < nl := by rw [← hnl, farL_len]; omega
          rw [hnl] at HOi ⊢
          clear hnl ci
          go_wp2_with fail
          clear hm
          go_loopw [12] (fun iv wr => ∃ k : Nat, k ≤ cols.length ∧ iv = .int .i64 k ∧ Hid (OwnB wr wj.heap.size (.slice (some ⟨wj.heap.size, 0, none⟩) q q) (bgo q (cols.take k) far)) ∧ Hid (Below wj.heap.size wj wr)) (fun i _ => cols.length - (intOf i).toNat)
          case atStart => exact ⟨0, by omega, rfl, Lib.hid (OwnB.made wj _ q (Nat.le_refl _) (by omega)), Lib.hid (by (repeat (first | (with_reducible exact Below.refl _ _) | (with_reducible assumption) | (with_reducible refine below_al ?_) | (with_reducible refine below_dr ?_) | (with_reducible refine below_drN ?_) | (with_reducible refine below_set ?_ (by first | exact Nat.le_refl _ | (dsimp only; omega) | omega)) | (with_reducible refine below_tr (by with_reducible assumption) ?_))))⟩
          case round =>
            obtain ⟨k, hk, rfl, HOk, HBk⟩ := hrel
            by_cases hkl : k < cols.length
            · obtain ⟨b2, off2, r, o, cx2, rfl, hb2, y0, hr, y1, y2, y3, y4⟩ := crows_at (HRc.out.below HBk.out) k hkl
              obtain ⟨⟨w0, w1'⟩, e0, e1⟩ := HC.out _ (List.getElem_mem hkl)
              have HTg := Lib.hid (bgo_take q cols far k hkl)
              have hnl := bgo_len q (cols.take k) far
              generalize bgo q (cols.take k) far = nx at *
              generalize cols[k] = col at *
              have hz1 : col.e.toNat < far.length := by have := HLn.out; omega
              have hz2 : col.w.toNat < nx.length := by omega
              have HTg2 := Lib.hid (bstep_eq far nx col hz1)
              obtain ⟨wi, hwi⟩ := Int.eq_ofNat_of_zero_le w0
              obtain ⟨ei, hei⟩ := Int.eq_ofNat_of_zero_le e0
              obtain ⟨b3, off3, rfl, hlt3, n0⟩ := HRi.out _ hz1
              obtain ⟨g4, hg4, _, gl, n1, n2⟩ := HOk.out.at_ _ hz2
              injection hg4 with hg4; injection hg4 with hg4 _; subst hg4
              simp only [hwi, hei, Int.toNat_natCast] at n0 n1 n2 hz1 hz2 HTg2
              rw [hwi] at y2
              rw [hei] at y3
              have hlw : wi < q := by omega
              have hle : ei < q := by omega
              replace n0 := (HBk.out.cell (p := ⟨b3, off3 + ei, none⟩) hlt3).trans n0
              have HTG := Lib.hid (HTg.out.trans HTg2.out)
              generalize nx[wi]'_ = bn at n1
              generalize far[ei]'_ = bw at *
              have ci := CI.out _ HBk.out
              have X0 := keepC ci
              have Y0 := keepC y0
              have Y2 := keepC y2
              have Y3 := keepC y3
              have N0 := keepC n0
              have N1 := keepC n1
              have N2 := fun wz (hz : Below wr.heap.size wr wz) => (hz.frozen (p := ⟨wj.heap.size, wi, none⟩) gl).trans n2
              clear hwi hei hz1 hz2 HTg HTg2 ci y0 y1 y2 y3 y4 n0 n1 n2 hnl
              cases bw
              all_goals
                simp only [Bool.false_eq_true, if_false, if_true] at HTG
                go_wp2_with fail
                refine wp_region_add (fun w' => Below (wr).heap.size (wr) w') (by kernel_rfl) (by kernel_rfl) ((Below.refl _ _).drew) ?_
                repeat (first
                  | (refine add_skip rfl (fun K' hK' => ?_); go_simp; refine hK' _ ?_; clear hK' K')
                  | (refine add_do (v := ?_) rfl (fun w1 hb => ?_) (fun K' hK' => ?_); rotate_left
                     · go_simp
                       first
                       | (with_reducible exact rfl)
                       | (with_reducible exact ⟨rfl, hb⟩)
                       | exact rfl
                       | exact ⟨rfl, hb⟩
                     go_simp; refine hK' _ ?_; clear hK' K'))
                refine add_nil ?_
                intro wa hba
                have ya0 := Y0 _ hba
                have ya2 := Y2 _ hba
                have na1 := N1 _ hba
                have na2 := N2 _ hba
                have HOa := Lib.hid (HOk.out.below hba)
                have HBa := Lib.hid (HBk.out.trans (hba.mono HBk.out.size))
                clear hba X0 Y0 Y2 Y3 N0 N1 N2
                go_wp2_with fail
                go_roundw
                case rel => first | exact ⟨k + 1, by omega, by go_num, Lib.hid (by rw [HTG.out]; exact HOa.out), HBa⟩ | exact ⟨k + 1, by omega, by go_num, Lib.hid (by rw [HTG.out]; exact (HOa.out.set wi true).1), Lib.hid (HBa.out.setCell (Nat.le_refl _) _)⟩
                case measure => simp [intOf]; omega
            · obtain rfl : k = cols.length := by omega
              rw [List.take_length] at HOk
              go_wp2_with (at_builtin; refine Hold.of ?_)
              refine Hold.to ?_
              refine wpl_app_rowB (W0 := wj) rfl (.tmp 59) (.tmp 61) rfl w.heap.size _ _ _ (bgo q cols far) rfl HOi.out (by have h3 := HBk.out; (repeat (first | (with_reducible exact Below.refl _ _) | (with_reducible assumption) | (with_reducible refine below_al ?_) | (with_reducible refine below_dr ?_) | (with_reducible refine below_drN ?_) | (with_reducible refine below_set ?_ (by first | exact Nat.le_refl _ | (dsimp only; omega) | omega)) | (with_reducible refine below_tr (by with_reducible assumption) ?_)))) (HOk.out.below (below_al (Below.refl _ _))) wr.heap.size 0 rfl (cell_alloc_at _ _ _ _ _ rfl) (by rw [farL_len]; omega) HBi.out.size (fun v' w' h1 h2 h3 => ?_)
              have hb : Below w.heap.size w w' := Below.grown (below_al (HBi.out.trans (HBk.out.mono HBi.out.size))) h2 (by have := HBi.out.size; have := HBk.out.size; simp; omega) h3
              rw [← HFa.out, ← farL_succ] at h1
              have HFin := Lib.hid (And.intro h1 hb)
              clear h1 h2 h3 hb
              go_wp2_with fail
              go_roundw
              case rel => exact ⟨i + 1, by omega, by go_num, Lib.hid HFin.out.1, Lib.hid HFin.out.2⟩
              case measure => simp [intOf]; omega
        · obtain rfl : i = n := by omega
          clear hrd
          go_wp2_with fail
          go_ret
          exact ⟨_, rfl, HOi.out, HBi.out⟩

end Go.Proofs.YtnoehaphbpkpjaaGreat
namespace Go.Proofs.YtnoehaphbpkpjaaGreat
open Go.RowKit
theorem app_rowH {o : Oper} {a : Act} {W0 W : World} {K : Act → World → Prop} {Q : Exit → Act → World → Prop} (s x : Operand)
    (ho : o.op = .call { callee := .builtin .append, args := #[s, x], argTypes := #[42, 42] }) (B : Nat) (v : Value) (L : List (List Int)) (u : Value) (xs : List Int) (hs : a.eval s = v) (hown : OwnII W0 B v L)
    (hW : Below W0.heap.size W0 W) (hu : OwnI W W0.heap.size u xs)
    (b off : Nat) (hx : a.eval x = .slice (some ⟨b, off, none⟩) 1 1) (hc : W.cell? ⟨b, off, none⟩ = some u) (hl : L.length ≤ 1000000000000) (hB : B ≤ W0.heap.size)
    (h : ∀ v' w', OwnII w' B v' (L ++ [xs]) → W.grownBy w' v.ownBlock → (∀ k, v.ownBlock = some k → B ≤ k) → (v'.ownBlock = v.ownBlock ∨ v'.ownBlock = some W.heap.size) → K (a.put o.dst v') w') : o.wp Tryz.prog a W K Q := by
  obtain ⟨vs, g1, g2, h3, h4⟩ := hown
  have h1 : W.ownsRow B 39 1 v L.length vs := World.ownsRow.kept (row := none) g1 ⟨hW.os, hW.tape, hW.output, hW.size, fun k hk _ => hW.block k hk⟩ (by cases h : v.ownBlock with | none => exact .inl rfl | some k => exact .inr (by simp))
  have h2 : ∀ i (h : i < vs.length) (h' : i < L.length), OwnI W B vs[i] L[i] := fun i h h' => (g2 i h h').below hW
  have hvl : vs.length = L.length := by have := h1.1; omega
  refine app_gen s x 42 39 (.slice none 0 0) 1 24 ho Tryz.underlying42 infoSl rfl (by decide) B v L.length vs hs h1 ⟨b, off, none⟩ 1 1 [u] hx rfl ?_ ?_ ?_ ?_ (Nat.le_trans hB hW.size) ?_
  · intro j z hj
    cases j with
    | zero => simp at hj; subst hj; simpa [Addr.add] using hc
    | succ j => simp at hj
  · intro z hz
    simp at hz; subst hz
    obtain ⟨A, cx, rfl, _⟩ := hu.shape
    rfl
  · simp [maxLen]; omega
  · omega
  · intro v' w' k1 k2 k3
    have hvb := World.ownsRow.lt h1
    have hub := World.ownsRow.lt hu
    have hvb0 : ∀ k, v.ownBlock = some k → k < W0.heap.size := fun k hk => (World.ownsRow.lt g1 k hk).2
    have huv : Apart u v := by
      cases eu : u.ownBlock with
      | none => exact .inl eu
      | some k =>
        right; rw [eu]; intro e
        have := (hub k eu).1
        have := hvb0 k e.symm
        omega
    refine h v' w' ⟨vs ++ [u], by rw [List.length_append]; exact k1, fun i hi hi' => ?_, fun i j hi hj hij => ?_, fun i hi => ?_⟩ k2 (fun k hk => (hvb k hk).1) k3
    · by_cases e : i < vs.length
      · have e' : i < L.length := by omega
        rw [List.getElem_append_left e, List.getElem_append_left e']
        exact (h2 i e e').grown k2 (h4 i e)
      · have ei : i = vs.length := by simp at hi; omega
        subst ei
        rw [List.getElem_append_right (Nat.le_refl _), List.getElem_append_right (by omega)]
        simp only [Nat.sub_self, List.getElem_cons_zero, hvl]
        exact (hu.weaken hB).grown k2 huv
    · have far : ∀ q (hq : q < vs.length), Apart vs[q] u := fun q hq => (own_apart (g2 q hq (by omega)) hu).1
      by_cases e : i < vs.length
      · by_cases e2 : j < vs.length
        · rw [List.getElem_append_left e, List.getElem_append_left e2]; exact h3 i j e e2 hij
        · rw [List.getElem_append_left e, List.getElem_append_right (by omega)]
          simp only [show j - vs.length = 0 by simp at hj; omega, List.getElem_cons_zero]
          exact far i e
      · have e2 : j < vs.length := by simp at hi hj; omega
        rw [List.getElem_append_left e2, List.getElem_append_right (by omega)]
        simp only [show i - vs.length = 0 by simp at hi; omega, List.getElem_cons_zero]
        exact (far j e2).symm
    · by_cases e : i < vs.length
      · rw [List.getElem_append_left e]
        exact ((h4 i e).symm.app (h2 i e (by omega)).blt k3).symm
      · rw [List.getElem_append_right (by omega)]
        simp only [show i - vs.length = 0 by simp at hi; omega, List.getElem_cons_zero]
        exact (huv.symm.app hu.blt k3).symm
theorem wpl_app_rowH {ops : Array Oper} {rest : List Oper} {o : Oper} {a : Act} {W0 W : World} {Q : Exit → Act → World → Prop} (hgd : o.guard = none) (s x : Operand)
    (ho : o.op = .call { callee := .builtin .append, args := #[s, x], argTypes := #[42, 42] }) (B : Nat) (v : Value) (L : List (List Int)) (u : Value) (xs : List Int) (hs : a.eval s = v) (hown : OwnII W0 B v L)
    (hW : Below W0.heap.size W0 W) (hu : OwnI W W0.heap.size u xs)
    (b off : Nat) (hx : a.eval x = .slice (some ⟨b, off, none⟩) 1 1) (hc : W.cell? ⟨b, off, none⟩ = some u) (hl : L.length ≤ 1000000000000) (hB : B ≤ W0.heap.size)
    (h : ∀ v' w', OwnII w' B v' (L ++ [xs]) → W.grownBy w' v.ownBlock → (∀ k, v.ownBlock = some k → B ≤ k) → (v'.ownBlock = v.ownBlock ∨ v'.ownBlock = some W.heap.size) → wpList Tryz.prog ops Q rest (a.put o.dst v') w') : wpList Tryz.prog ops Q (o :: rest) a W :=
  wpList_plain hgd fun _ hK => app_rowH s x ho B v L u xs hs hown hW hu b off hx hc hl hB fun v' w' h1 h2 h3 h4 => hK _ _ (h v' w' h1 h2 h3 h4)
theorem wpl_app_intsN {ops : Array Oper} {rest : List Oper} {o : Oper} {a : Act} {W : World} {Q : Exit → Act → World → Prop} (hgd : o.guard = none) (s x : Operand)
    (ho : o.op = .call { callee := .builtin .append, args := #[s, x], argTypes := #[39, 39] }) (B : Nat) (v : Value) (xs ys : List Int) (hs : a.eval s = v) (hown : OwnI W B v xs)
    (b off cap : Nat) (hx : a.eval x = .slice (some ⟨b, off, none⟩) ys.length cap) (hc : ∀ j (h : j < ys.length), W.cell? ⟨b, off + j, none⟩ = some (.int .i64 ys[j])) (hl : xs.length + ys.length ≤ 1000000000000) (hB : B ≤ W.heap.size)
    (h : ∀ v' w', OwnI w' B v' (xs ++ ys) → W.grownBy w' v.ownBlock → (v'.ownBlock = v.ownBlock ∨ v'.ownBlock = some W.heap.size) → wpList Tryz.prog ops Q rest (a.put o.dst v') w') : wpList Tryz.prog ops Q (o :: rest) a W :=
  wpList_plain hgd fun _ hK => app_intsN s x ho B v xs ys hs hown b off cap hx hc hl hB fun v' w' h1 h2 h3 => hK _ _ (h v' w' h1 h2 h3)
/-- numbers from an address on, in a block that is not a given one -/
def BegOk (w : World) (o : Option Nat) (b off : Nat) (xs : List Int) : Prop := ∀ j (h : j < xs.length), b < w.heap.size ∧ some b ≠ o ∧ w.cell? ⟨b, off + j, none⟩ = some (.int .i64 xs[j])
def NowOk (w : World) (o : Option Nat) (A : Option Addr) (xs : List Bool) : Prop := ∀ j (h : j < xs.length), ∃ b off, A = some ⟨b, off, none⟩ ∧ b < w.heap.size ∧ some b ≠ o ∧ w.cell? ⟨b, off + j, none⟩ = some (.bool xs[j])
theorem BegOk.grown {w w' : World} {o : Option Nat} {b off : Nat} {xs : List Int} (h : BegOk w o b off xs) (hg : w.grownBy w' o) : BegOk w' o b off xs := fun j hj => by
  obtain ⟨h1, h2, h3⟩ := h j hj
  exact ⟨Nat.lt_of_lt_of_le h1 hg.size, h2, hg.cell h3 h2⟩
theorem NowOk.grown {w w' : World} {o : Option Nat} {A : Option Addr} {xs : List Bool} (h : NowOk w o A xs) (hg : w.grownBy w' o) : NowOk w' o A xs := fun j hj => by
  obtain ⟨b, off, e, h1, h2, h3⟩ := h j hj
  exact ⟨b, off, e, Nat.lt_of_lt_of_le h1 hg.size, h2, hg.cell h3 h2⟩
def OutAt (w : World) (o o' : Option Nat) : Prop := o' = o ∨ ∃ k, o' = some k ∧ w.heap.size ≤ k
theorem BegOk.hop {w w' : World} {o o' : Option Nat} {b off : Nat} {xs : List Int} (h : BegOk w o b off xs) (hg : w.grownBy w' o) (ha : OutAt w o o') : BegOk w' o' b off xs := fun j hj => by
  obtain ⟨h1, h2, h3⟩ := h j hj
  refine ⟨Nat.lt_of_lt_of_le h1 hg.size, ?_, hg.cell h3 h2⟩
  rcases ha with rfl | ⟨k, rfl, hk⟩
  · exact h2
  · intro e; injection e with e; omega
theorem NowOk.hop {w w' : World} {o o' : Option Nat} {A : Option Addr} {xs : List Bool} (h : NowOk w o A xs) (hg : w.grownBy w' o) (ha : OutAt w o o') : NowOk w' o' A xs := fun j hj => by
  obtain ⟨b, off, e, h1, h2, h3⟩ := h j hj
  refine ⟨b, off, e, Nat.lt_of_lt_of_le h1 hg.size, ?_, hg.cell h3 h2⟩
  rcases ha with rfl | ⟨k, rfl, hk⟩
  · exact h2
  · intro e; injection e with e; omega
theorem BegOk.below {w w' : World} {o : Option Nat} {b off : Nat} {xs : List Int} (h : BegOk w o b off xs) (hb : Below w.heap.size w w') : BegOk w' o b off xs := h.grown ⟨hb.os, hb.tape, hb.output, hb.size, fun k hk _ => hb.block k hk⟩
theorem NowOk.below {w w' : World} {o : Option Nat} {A : Option Addr} {xs : List Bool} (h : NowOk w o A xs) (hb : Below w.heap.size w w') : NowOk w' o A xs := h.grown ⟨hb.os, hb.tape, hb.output, hb.size, fun k hk _ => hb.block k hk⟩
def xstep (x : Int) (now far nx : List Bool) (k : Col) : List Bool := if ((x == k.n) && now.getD k.w.toNat false && far.getD k.e.toNat false) = true then nx.set k.e.toNat true else nx
def xgo (S : Nat) (cols : List Col) (x : Int) (now far : List Bool) : List Bool := cols.foldl (xstep x now far) (List.replicate S false)
def xsome (cols : List Col) (x : Int) (now far : List Bool) : Bool := cols.any fun k => (x == k.n) && now.getD k.w.toNat false && far.getD k.e.toNat false
theorem xstep_len (x : Int) (now far nx : List Bool) (k : Col) : (xstep x now far nx k).length = nx.length := by unfold xstep; split <;> simp
theorem xgo_len (S : Nat) (cols : List Col) (x : Int) (now far : List Bool) : (xgo S cols x now far).length = S := by
  unfold xgo
  suffices ∀ nx : List Bool, (cols.foldl (xstep x now far) nx).length = nx.length by rw [this]; simp
  intro nx
  induction cols generalizing nx with
  | nil => rfl
  | cons k l ih => rw [List.foldl_cons, ih, xstep_len]
theorem xgo_take (S : Nat) (cols : List Col) (x : Int) (now far : List Bool) (j : Nat) (hj : j < cols.length) : xgo S (cols.take (j + 1)) x now far = xstep x now far (xgo S (cols.take j) x now far) cols[j] := by
  unfold xgo; rw [List.take_succ_eq_append_getElem hj, List.foldl_append]; rfl
theorem xsome_take (cols : List Col) (x : Int) (now far : List Bool) (j : Nat) (hj : j < cols.length) : xsome (cols.take (j + 1)) x now far = (xsome (cols.take j) x now far || ((x == cols[j].n) && now.getD cols[j].w.toNat false && far.getD cols[j].e.toNat false)) := by
  unfold xsome; rw [List.take_succ_eq_append_getElem hj, List.any_append]; simp
/-- the words of so many colours that can be read on from some words, in order -/
def exts (S : Nat) (cols : List Col) (c : Nat) : Nat → List Bool → List (List Int)
  | 0, _ => [[]]
  | l + 1, now => (List.range c).flatMap fun x : Nat => if xsome cols x now (farAt S cols l) = true then (exts S cols c l (xgo S cols x now (farAt S cols l))).map ((x : Int) :: ·) else []
def extsTo (S : Nat) (cols : List Col) (c l : Nat) (now : List Bool) (m : Nat) : List (List Int) := (List.range m).flatMap fun x : Nat => if xsome cols x now (farAt S cols l) = true then (exts S cols c l (xgo S cols x now (farAt S cols l))).map ((x : Int) :: ·) else []
theorem extsTo_all (S : Nat) (cols : List Col) (c l : Nat) (now : List Bool) : extsTo S cols c l now c = exts S cols c (l + 1) now := rfl
theorem extsTo_succ (S : Nat) (cols : List Col) (c l : Nat) (now : List Bool) (m : Nat) : extsTo S cols c l now (m + 1) = extsTo S cols c l now m ++ if xsome cols m now (farAt S cols l) = true then (exts S cols c l (xgo S cols m now (farAt S cols l))).map ((m : Int) :: ·) else [] := by
  unfold extsTo; rw [List.range_succ, List.flatMap_append]; simp
/-- what is found, up to a number, when the words up to a colour are through -/
def outTo (S : Nat) (cols : List Col) (c l : Nat) (now : List Bool) (begin : List Int) (outs : List (List Int)) (most m : Nat) : List (List Int) := (outs ++ (extsTo S cols c l now m).map (begin ++ ·)).take most
theorem take_join {α : Type} (A F : List α) (m : Nat) : (A.take m ++ F).take m = (A ++ F).take m := by
  by_cases h : m ≤ A.length
  · rw [List.take_append_of_le_length h, List.take_append_of_le_length (by simp; omega), List.take_take, Nat.min_self]
  · rw [List.take_of_length_le (by omega : A.length ≤ m)]
theorem outTo_zero (S : Nat) (cols : List Col) (c l : Nat) (now : List Bool) (begin : List Int) (outs : List (List Int)) (most : Nat) (h : outs.length < most) : outTo S cols c l now begin outs most 0 = outs := by
  unfold outTo extsTo; simp [List.take_of_length_le (Nat.le_of_lt h)]
theorem outTo_no {S : Nat} {cols : List Col} {c l : Nat} {now : List Bool} {m : Nat} (begin : List Int) (outs : List (List Int)) (most : Nat) (h : xsome cols m now (farAt S cols l) = false) : outTo S cols c l now begin outs most (m + 1) = outTo S cols c l now begin outs most m := by
  unfold outTo; rw [extsTo_succ, h]; simp
theorem outTo_yes {S : Nat} {cols : List Col} {c l : Nat} {now : List Bool} {m : Nat} (begin : List Int) (outs : List (List Int)) (most : Nat) (h : xsome cols m now (farAt S cols l) = true) :
    outTo S cols c l now begin outs most (m + 1) = (outTo S cols c l now begin outs most m ++ (exts S cols c l (xgo S cols m now (farAt S cols l))).map ((begin ++ [(m : Int)]) ++ ·)).take most := by
  unfold outTo
  rw [take_join, extsTo_succ, if_pos h, List.map_append, List.append_assoc, List.map_map]
  congr 3
  apply List.map_congr_left
  intro a _
  simp
theorem outTo_full {S : Nat} {cols : List Col} {c l : Nat} {now : List Bool} {begin : List Int} {outs : List (List Int)} {most : Nat} : ∀ (d m : Nat), most ≤ (outTo S cols c l now begin outs most m).length → outTo S cols c l now begin outs most (m + d) = outTo S cols c l now begin outs most m
  | 0, _, _ => rfl
  | d + 1, m, h => by
    have ih := outTo_full d m h
    rw [show m + (d + 1) = (m + d) + 1 by omega]
    cases hx : xsome cols ((m + d : Nat) : Int) now (farAt S cols l) with
    | false => rw [outTo_no _ _ _ hx, ih]
    | true =>
      rw [outTo_yes _ _ _ hx, ih, List.take_append_of_le_length h, List.take_of_length_le]
      unfold outTo; rw [List.length_take]; exact Nat.min_le_left _ _
set_option maxRecDepth 100000 in
set_option maxHeartbeats 1000000 in
theorem l01Own_c (xs : List Int) (b off cap : Nat) (w : World) (hc : ∀ j (h : j < xs.length), w.cell? ⟨b, off + j, none⟩ = some (.int .i64 xs[j])) (hl : xs.length ≤ 1000000) :
    Calls Tryz.prog 72 #[.slice (some ⟨b, off, none⟩) xs.length cap] w fun e w' => ∃ v, e = .returned v ∧ OwnI w' w.heap.size v xs ∧ Below w.heap.size w w' := by
  have HC := Lib.hid (fun j h => cell_alloc_old w (.cells #[] 2) _ _ _ (hc j h))
  clear hc
  go_enter Tryz.func72, Tryz.ntmps72
  go_wp2_with (at_builtin; refine Hold.of ?_)
  refine Hold.to ?_
  refine wpl_app_intsN rfl (.tmp 3) (.tmp 4) rfl w.heap.size _ [] xs rfl (OwnI.made w _ #[] [] rfl (Nat.le_refl _) (by simp)) b off cap rfl HC.out (by simp; omega) (by simp) (fun v' w' h1 h2 h3 => ?_)
  have hb : Below w.heap.size w w' := Below.grown (below_al (Below.refl _ _)) h2 (by simp) (fun k hk => by have e : some w.heap.size = some k := hk; injection e with e; omega)
  have HF := Lib.hid (And.intro h1 hb)
  clear h1 h2 h3 hb
  go_wp2
  go_ret
  exact ⟨_, rfl, by simpa using HF.out.1, HF.out.2⟩

end Go.Proofs.YtnoehaphbpkpjaaGreat
