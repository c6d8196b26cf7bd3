/- Contracts and lemmas for the statements of this seat, written for this claim; each theorem states its own conditions. -/
import Derived.Lib.LazyBuf
import Derived.Test.YtnoehaphbpkpjaaGreatFoTh1
set_option linter.unusedVariables false
set_option linter.unusedSimpArgs false
namespace Go.Proofs.YtnoehaphbpkpjaaGreat
open Go.RowKit
set_option maxRecDepth 100000 in
set_option maxHeartbeats 1000000 in
theorem clone_c (xs : List Int) (b off cap : Nat) (w : World) (hc : ∀ j (h : j < xs.length), w.cell? ⟨b, off + j, none⟩ = some (.int .i64 xs[j])) (hl : xs.length ≤ 1000000) :
    Calls Tryz.prog 70 #[.slice (some ⟨b, off, none⟩) xs.length cap] w fun e w' => ∃ v, e = .returned v ∧ OwnI w' w.heap.size v xs ∧ Below w.heap.size w w' := by
  have HC := Lib.hid (fun j h => cell_alloc_old w (.cells #[] 2) _ _ _ (hc j h))
  clear hc
  have hq := fun w => run_eql_slice_nil (P := Tryz.prog) w 39 2 (some ⟨b, off, none⟩) xs.length cap Tryz.underlying39
  simp only [Option.isNone_some] at hq
  go_enter Tryz.func70, Tryz.ntmps70
  go_wp2_with (at_builtin; refine Hold.of ?_)
  refine Hold.to ?_
  refine wpl_app_intsN rfl (.tmp 5) (.tmp 6) rfl w.heap.size _ [] xs rfl (OwnI.made w _ #[] [] rfl (Nat.le_refl _) (by simp)) b off cap rfl HC.out (by simp; omega) (by simp) (fun v' w' h1 h2 h3 => ?_)
  have hb : Below w.heap.size w w' := Below.grown (below_al (Below.refl _ _)) h2 (by simp) (fun k hk => by have e : some w.heap.size = some k := hk; injection e with e; omega)
  have HF := Lib.hid (And.intro h1 hb)
  clear h1 h2 h3 hb
  go_wp2
  go_ret
  exact ⟨_, rfl, by simpa using HF.out.1, HF.out.2⟩
/-- what the search reads and never changes -/
structure TrEnv (w0 : World) (g c S n most : Nat) (A : Option Addr) (tn cx : Nat) (h : Int) (cols : List Col) (AF : Option Addr) (kF bn bm bs bc : Nat) : Prop where
  en : w0.cell? ⟨bn, 0, none⟩ = some (.int .i64 n)
  emost : w0.cell? ⟨bm, 0, none⟩ = some (.int .i64 most)
  est : w0.cell? ⟨bs, 0, none⟩ = some (.pointer (some ⟨g, 0, none⟩))
  ecan : w0.cell? ⟨bc, 0, none⟩ = some (.slice AF (n + 1 : Nat) kF)
  strip : StripR w0 g c A tn cx h S cols
  far : RowsB w0 AF (farL S cols n)
def TrP (bo : Nat) (T : Nat → Prop) (vw : Value) (k : Nat) : Prop := k = bo ∨ T k ∨ vw.ownBlock = some k
def NowS (w : World) (P : Nat → Prop) (A : Option Addr) (xs : List Bool) : Prop := ∀ j (h : j < xs.length), ∃ b off, A = some ⟨b, off, none⟩ ∧ b < w.heap.size ∧ ¬ P b ∧ w.cell? ⟨b, off + j, none⟩ = some (.bool xs[j])
structure TrIn (w0 : World) (bo be : Nat) (FV : Value) (vw v0 : Value) (word : List Int) (outs : List (List Int)) (T : Nat → Prop) (w : World) : Prop where
  base : Below w0.heap.size w0 w
  bo0 : w0.heap.size ≤ bo
  bo1 : bo < w.heap.size
  be0 : w0.heap.size ≤ be
  be1 : be < w.heap.size
  ne : bo ≠ be
  out : w.cell? ⟨bo, 0, none⟩ = some v0
  outf : w.frozen? ⟨bo, 0, none⟩ = false
  ext : w.cell? ⟨be, 0, none⟩ = some FV
  outs : OutS w T v0 outs
  t : ∀ k, T k → w0.heap.size ≤ k ∧ k < w.heap.size ∧ k ≠ bo ∧ k ≠ be
  word : OwnI w w0.heap.size vw word
  wordn : ∀ k, vw.ownBlock = some k → k ≠ bo ∧ k ≠ be ∧ ¬ T k
def TrOut (w0 : World) (bo : Nat) (vw : Value) (word : List Int) (T : Nat → Prop) (w : World) (outs' : List (List Int)) (w' : World) : Prop :=
  ∃ v' T', w'.cell? ⟨bo, 0, none⟩ = some v' ∧ w'.frozen? ⟨bo, 0, none⟩ = false ∧ OutS w' T' v' outs' ∧ (∀ k, T' k → (T k ∨ w.heap.size ≤ k) ∧ k < w'.heap.size) ∧ OwnI w' w0.heap.size vw word
theorem TrOut.cell_ {w0 : World} {bo : Nat} {vw : Value} {word : List Int} {T : Nat → Prop} {w : World} {L : List (List Int)} {w' : World} (h : TrOut w0 bo vw word T w L w') : ∃ A' n' k', w'.cell? ⟨bo, 0, none⟩ = some (.slice A' n' k') := by
  obtain ⟨v, T', h1, h2, h3, _⟩ := h
  obtain ⟨a, b, rfl⟩ := h3.shape
  exact ⟨_, _, _, h1⟩
def TrSpec (w0 : World) (cols : List Col) (S c n most bn bo bm bs bc be : Nat) (FV : Value) (left : Nat) : Prop :=
  ∀ (word : List Int) (vw : Value) (next : List Bool) (An : Option Addr) (kn : Nat) (outs : List (List Int)) (v0 : Value) (T : Nat → Prop) (w : World), word.length + left = n → next.length = S → TrIn w0 bo be FV vw v0 word outs T w → NowS w (TrP bo T vw) An next → outs.length ≤ most →
    Calls Tryz.prog 104 #[vw, .slice An S kn, .pointer (some ⟨bn, 0, none⟩), .pointer (some ⟨bo, 0, none⟩), .pointer (some ⟨bm, 0, none⟩), .pointer (some ⟨bs, 0, none⟩), .pointer (some ⟨bc, 0, none⟩), .pointer (some ⟨be, 0, none⟩)] w fun e w' =>
      e = .returned (.bool (decide (outs.length + (exts S cols c left next).length ≤ most))) ∧ Fr (TrP bo T vw) w w' ∧ (∃ A' n' k', w'.cell? ⟨bo, 0, none⟩ = some (.slice A' n' k')) ∧ (outs.length + (exts S cols c left next).length ≤ most → TrOut w0 bo vw word T w (outs ++ (exts S cols c left next).map (word ++ ·)) w')
set_option maxRecDepth 100000 in
set_option maxHeartbeats 1000000 in
theorem trLeaf (w0 : World) (g : Nat) (A : Option Addr) (tn cx : Nat) (h : Int) (AF : Option Addr) (kF : Nat) (cols : List Col) (S c n most bn bo bm bs bc be : Nat) (FV : Value) (hn1 : 1 ≤ n) (hn : n ≤ 100) (hm : most ≤ 1000000)
    (hE : TrEnv w0 g c S n most A tn cx h cols AF kF bn bm bs bc) (hbn : bn < w0.heap.size) (hbm : bm < w0.heap.size) : TrSpec w0 cols S c n most bn bo bm bs bc be FV 0 := by
  intro word vw next An kn outs v0 T w hlen hnow hI hN hlt
  obtain ⟨Aw, kw, rfl, _⟩ := hI.word.shape
  obtain ⟨bw, rfl, _⟩ := hI.word.at_ 0 (by omega)
  have HI := Lib.hid hI
  have C0 := keepC (keepC hE.en _ hI.base)
  have C1 := keepC (keepC hE.emost _ hI.base)
  have hbn' : bn < w.heap.size := Nat.lt_of_lt_of_le hbn hI.base.size
  have hbm' : bm < w.heap.size := Nat.lt_of_lt_of_le hbm hI.base.size
  have H1 := Lib.hid (fun wq (hq : Below w.heap.size w wq) => clone_c word bw 0 kw wq (fun j h => by
    obtain ⟨g', e, _, hlt, hc, _⟩ := hI.word.at_ j h
    injection e with e; injection e with e; subst e
    simpa using (hq.cell (p := ⟨bw, j, none⟩) hlt).trans hc) (by omega))
  obtain rfl : word.length = n := by omega
  have c0 := C0 w (Below.refl _ _)
  have o0 := hI.out
  have O0 := keepC hI.out
  have hob := hI.bo1
  obtain ⟨Av, kv, rfl⟩ := hI.outs.shape
  clear hI hN hE
  go_enter Tryz.func104, Tryz.ntmps104
  go_wp2_with fail
  refine wp_region_plan (.det 1 (.two 0 (.one 2 (.one 3 (.one 4 (.one 5 (.done))))) 2 (.two 0 (.one 3 (.one 4 (.one 5 (.done)))) 3 (.one 0 (.one 4 (.one 5 (.done))))))) (fun w' => Fr (fun k => k = bo ∨ T k) w w') (fun a a' w' => ∃ x0 x1 x2 x3 x4, a' = (((((a.put (some 23) x0).put (some 24) x1).put (some 25) x2).put (some 26) x3).put (some 27) x4) ∧ TrOut w0 bo (.slice (some ⟨bw, 0, none⟩) word.length kw) word T w (outs ++ [word]) w') (by kernel_rfl) (by kernel_rfl) (fun _ _ d _ _ h => by cases d <;> exact h) (Fr.below (Below.refl _ w).drew) ?_ ?_
  rotate_left
  · rintro a' wa hba ⟨x0, x1, x2, x3, x4, rfl, hP⟩
    obtain ⟨v', T', p1, p2, p3, p4, p5⟩ := hP
    obtain ⟨A', k', rfl⟩ := p3.shape
    have C1' : wa.cell? ⟨bm, 0, none⟩ = some (.int .i64 most) := (hba.cell (p := ⟨bm, 0, none⟩) hbm' (by rintro (e | e); have e : bm = bo := e; have := HI.out.bo0; omega; have := (HI.out.t bm e).1; omega)).trans (C1 w (Below.refl _ _))
    have hbma : bm < wa.heap.size := Nat.lt_of_lt_of_le hbm' hba.size
    have hboa : bo < wa.heap.size := Nat.lt_of_lt_of_le hob hba.size
    have HF := Lib.hid (show TrOut w0 bo (.slice (some ⟨bw, 0, none⟩) word.length kw) word T w (outs ++ [word]) wa from ⟨_, T', p1, p2, p3, p4, p5⟩)
    have HG := Lib.hid (show Fr (TrP bo T (.slice (some ⟨bw, 0, none⟩) word.length kw)) w wa from hba.mono fun k _ hk => by rcases hk with hk | hk; exact .inl hk; exact .inr (.inl hk))
    have hle : (outs ++ [word]).length = outs.length + 1 := by simp
    rw [hle] at p1
    clear p2 p3 p4 p5 hba C1 O0 o0 c0 C0
    go_simp
    go_wp2
    go_ret
    refine ⟨?_, HG.out, HF.out.cell_, fun _ => by simpa [exts] using HF.out⟩
    show Ending.returned (.bool (decide ((outs.length : Int) + 1 ≤ (most : Int)))) = _
    rw [show decide ((outs.length : Int) + 1 ≤ (most : Int)) = decide (outs.length + (exts S cols c 0 next).length ≤ most) from decide_eq_decide.2 (by simp only [exts, List.length_cons, List.length_nil]; omega)]
  repeat (first
    | (refine plan_skip rfl rfl (fun K' hK' => ?_); go_simp; refine hK' _ ?_; clear hK' K')
    | (refine plan_do (v := ?_) rfl rfl (fun w1 hb => ?_) (fun K' hK' => ?_); rotate_left
       · go_simp
         rfl
       go_simp; refine hK' _ ?_; clear hK' K'))
  refine plan_two ?_ ?_
  · refine step_op rfl rfl (fun K' hK' => ?_)
    go_simp
    refine hK' _ _ (Fr.below (Below.refl _ w).drew) ?_; clear hK' K'
    refine plan_one (step_op rfl rfl (fun K' hK' => ?_))
    go_simp
    refine (H1.out _ (Below.refl _ w).drew).mono ?_
    rintro e w2 ⟨u, rfl, hu, hb2⟩
    have HB2 := Lib.hid (show Below w.heap.size w w2 from (Below.refl _ w).drew.trans hb2)
    obtain ⟨Au, ku, rfl, _⟩ := hu.shape
    have Hu := Lib.hid (show OwnI w2 w.heap.size (.slice Au word.length ku) word from hu)
    have HUT := Lib.hid (show ∀ k, (Value.slice Au word.length ku).ownBlock = some k → ¬ T k from fun k hk ht => absurd (HI.out.t k ht).2.1 (Nat.not_lt.2 (World.ownsRow.lt Hu.out k hk).1))
    have o2 := O0 _ HB2.out
    clear hu hb2
    refine hK' _ _ (Fr.below HB2.out) ?_; clear hK' K'
    refine plan_one (step_op rfl rfl (fun K' hK' => ?_))
    go_simp
    refine hK' _ _ (Fr.below (below_al HB2.out)) ?_; clear hK' K'
    refine plan_one (step_op rfl rfl (fun K' hK' => ?_))
    refine app_rowS (.tmp 23) (.tmp 26) rfl T (.slice Av outs.length kv) outs (.slice Au word.length ku) word rfl (HI.out.outs.below (below_al HB2.out)) ((Hu.out.weaken (Nat.zero_le _)).below (below_al (Below.refl _ _))) HUT.out w2.heap.size 0 rfl (cell_alloc_at _ _ _ _ _ rfl) (by omega) (fun v' w' h1 h2 h3 => ?_)
    obtain ⟨A', k', rfl⟩ := h1.shape
    have h1 := h1.cut
    have hown : ∀ k, (Value.slice Av outs.length kv).ownBlock = some k → T k := fun k hk => (HI.out.outs.own k hk).1
    have hF : Fr (fun k => k = bo ∨ T k) w w' := (Fr.below (below_al HB2.out)).trans (Fr.grown h2 fun k hk => .inr (hown k hk))
    have hFT : Fr T w w' := (Fr.below (below_al HB2.out)).trans (Fr.grown h2 fun k hk => hown k hk)
    have hnT : ¬ T bo := fun h => (HI.out.t bo h).2.2.1 rfl
    have b0 : w'.cell? ⟨bo, 0, none⟩ = some (.slice Av outs.length kv) := (hFT.cell (p := ⟨bo, 0, none⟩) hob hnT).trans HI.out.out
    have b1 : w'.frozen? ⟨bo, 0, none⟩ = false := (hFT.frozen (p := ⟨bo, 0, none⟩) hob hnT).trans HI.out.outf
    have HP : Hid (TrOut w0 bo (.slice (some ⟨bw, 0, none⟩) word.length kw) word T w (outs ++ [word]) (w'.setCell ⟨bo, 0, none⟩ (.slice A' (outs ++ [word]).length k'))) := by
      show TrOut _ _ _ _ _ _ _ _
      have hS : Fr (fun k => k = bo) w' (w'.setCell ⟨bo, 0, none⟩ (.slice A' (outs ++ [word]).length k')) := (Fr.refl _ w').set rfl
      have hA : Fr (fun k => k = bo ∨ T k) w (w'.setCell ⟨bo, 0, none⟩ (.slice A' (outs ++ [word]).length k')) := hF.set (.inl rfl)
      have hws : w.heap.size ≤ w2.heap.size := HB2.out.size
      have hsz : w2.heap.size < w'.heap.size := by have := h2.size; simp at this; omega
      refine ⟨_, _, World.cell?_setCell_same (h := b0) .., by rw [World.frozen?_setCell]; exact b1, h1.fr hS ?_, ?_, ?_⟩
      · rintro k ⟨hk | hk | hk, hk9⟩ e
        · exact hnT (e ▸ hk)
        · have := (Hu.out.blt k hk); have := (World.ownsRow.lt Hu.out k hk).1; have e : k = bo := e; omega
        · have e : k = bo := e; simp at hk; omega
      · rintro k ⟨hk | hk | hk, hk9⟩
        · exact ⟨.inl hk, by simpa using hk9⟩
        · exact ⟨.inr (World.ownsRow.lt Hu.out k hk).1, by simpa using hk9⟩
        · have hk8 := hk; simp at hk8; exact ⟨.inr (by omega), by simpa using hk9⟩
      · refine own_same HI.out.word fun k hk => hA.block k (HI.out.word.blt k hk) ?_
        obtain ⟨n1, _, n3⟩ := HI.out.wordn k hk
        rintro (e | e)
        · exact n1 e
        · exact n3 e
    have HF := Lib.hid hF
    refine hK' _ _ hF ?_
    clear hK' K' h1 h2 h3 hF hFT hown
    refine plan_one (step_op rfl rfl (fun K' hK' => ?_))
    go_simp
    refine hK' _ _ (HF.out.set (.inl rfl)) ?_; clear hK' K'
    refine plan_done ⟨?_, ?_, ?_, ?_, ?_, ?_, ?_⟩
    rotate_left 5
    · go_simp; (first | rfl | (and_intros <;> rfl))
    · exact by have h9 := HP.out; rw [show (outs ++ [word]).length = outs.length + 1 by simp] at h9; exact h9
  · refine step_op rfl rfl (fun K' hK' => ?_)
    go_simp
    refine (H1.out _ (Below.refl _ w).drew).mono ?_
    rintro e w2 ⟨u, rfl, hu, hb2⟩
    have HB2 := Lib.hid (show Below w.heap.size w w2 from (Below.refl _ w).drew.trans hb2)
    obtain ⟨Au, ku, rfl, _⟩ := hu.shape
    have Hu := Lib.hid (show OwnI w2 w.heap.size (.slice Au word.length ku) word from hu)
    have HUT := Lib.hid (show ∀ k, (Value.slice Au word.length ku).ownBlock = some k → ¬ T k from fun k hk ht => absurd (HI.out.t k ht).2.1 (Nat.not_lt.2 (World.ownsRow.lt Hu.out k hk).1))
    have o2 := O0 _ HB2.out
    have o3 := O0 _ (below_al (o := .cells #[.slice Au word.length ku] 39) HB2.out)
    clear hu hb2
    refine hK' _ _ (Fr.below HB2.out) ?_; clear hK' K'
    refine plan_two ?_ ?_
    · refine step_op rfl rfl (fun K' hK' => ?_)
      go_simp
      refine hK' _ _ (Fr.below HB2.out) ?_; clear hK' K'
      refine plan_one (step_op rfl rfl (fun K' hK' => ?_))
      go_simp
      refine hK' _ _ (Fr.below (below_al HB2.out)) ?_; clear hK' K'
      refine plan_one (step_op rfl rfl (fun K' hK' => ?_))
      refine app_rowS (.tmp 23) (.tmp 26) rfl T (.slice Av outs.length kv) outs (.slice Au word.length ku) word rfl (HI.out.outs.below (below_al HB2.out)) ((Hu.out.weaken (Nat.zero_le _)).below (below_al (Below.refl _ _))) HUT.out w2.heap.size 0 rfl (cell_alloc_at _ _ _ _ _ rfl) (by omega) (fun v' w' h1 h2 h3 => ?_)
      obtain ⟨A', k', rfl⟩ := h1.shape
      have h1 := h1.cut
      have hown : ∀ k, (Value.slice Av outs.length kv).ownBlock = some k → T k := fun k hk => (HI.out.outs.own k hk).1
      have hF : Fr (fun k => k = bo ∨ T k) w w' := (Fr.below (below_al HB2.out)).trans (Fr.grown h2 fun k hk => .inr (hown k hk))
      have hFT : Fr T w w' := (Fr.below (below_al HB2.out)).trans (Fr.grown h2 fun k hk => hown k hk)
      have hnT : ¬ T bo := fun h => (HI.out.t bo h).2.2.1 rfl
      have b0 : w'.cell? ⟨bo, 0, none⟩ = some (.slice Av outs.length kv) := (hFT.cell (p := ⟨bo, 0, none⟩) hob hnT).trans HI.out.out
      have b1 : w'.frozen? ⟨bo, 0, none⟩ = false := (hFT.frozen (p := ⟨bo, 0, none⟩) hob hnT).trans HI.out.outf
      have HP : Hid (TrOut w0 bo (.slice (some ⟨bw, 0, none⟩) word.length kw) word T w (outs ++ [word]) (w'.setCell ⟨bo, 0, none⟩ (.slice A' (outs ++ [word]).length k'))) := by
        show TrOut _ _ _ _ _ _ _ _
        have hS : Fr (fun k => k = bo) w' (w'.setCell ⟨bo, 0, none⟩ (.slice A' (outs ++ [word]).length k')) := (Fr.refl _ w').set rfl
        have hA : Fr (fun k => k = bo ∨ T k) w (w'.setCell ⟨bo, 0, none⟩ (.slice A' (outs ++ [word]).length k')) := hF.set (.inl rfl)
        have hws : w.heap.size ≤ w2.heap.size := HB2.out.size
        have hsz : w2.heap.size < w'.heap.size := by have := h2.size; simp at this; omega
        refine ⟨_, _, World.cell?_setCell_same (h := b0) .., by rw [World.frozen?_setCell]; exact b1, h1.fr hS ?_, ?_, ?_⟩
        · rintro k ⟨hk | hk | hk, hk9⟩ e
          · exact hnT (e ▸ hk)
          · have := (Hu.out.blt k hk); have := (World.ownsRow.lt Hu.out k hk).1; have e : k = bo := e; omega
          · have e : k = bo := e; simp at hk; omega
        · rintro k ⟨hk | hk | hk, hk9⟩
          · exact ⟨.inl hk, by simpa using hk9⟩
          · exact ⟨.inr (World.ownsRow.lt Hu.out k hk).1, by simpa using hk9⟩
          · have hk8 := hk; simp at hk8; exact ⟨.inr (by omega), by simpa using hk9⟩
        · refine own_same HI.out.word fun k hk => hA.block k (HI.out.word.blt k hk) ?_
          obtain ⟨n1, _, n3⟩ := HI.out.wordn k hk
          rintro (e | e)
          · exact n1 e
          · exact n3 e
      have HF := Lib.hid hF
      refine hK' _ _ hF ?_
      clear hK' K' h1 h2 h3 hF hFT hown
      refine plan_one (step_op rfl rfl (fun K' hK' => ?_))
      go_simp
      refine hK' _ _ (HF.out.set (.inl rfl)) ?_; clear hK' K'
      refine plan_done ⟨?_, ?_, ?_, ?_, ?_, ?_, ?_⟩
      rotate_left 5
      · go_simp; (first | rfl | (and_intros <;> rfl))
      · exact by have h9 := HP.out; rw [show (outs ++ [word]).length = outs.length + 1 by simp] at h9; exact h9
    · refine step_op rfl rfl (fun K' hK' => ?_)
      go_simp
      refine hK' _ _ (Fr.below (below_al HB2.out)) ?_; clear hK' K'
      refine plan_one (step_op rfl rfl (fun K' hK' => ?_))
      go_simp
      refine hK' _ _ (Fr.below (below_al HB2.out)) ?_; clear hK' K'
      refine plan_one (step_op rfl rfl (fun K' hK' => ?_))
      refine app_rowS (.tmp 23) (.tmp 26) rfl T (.slice Av outs.length kv) outs (.slice Au word.length ku) word rfl (HI.out.outs.below (below_al HB2.out)) ((Hu.out.weaken (Nat.zero_le _)).below (below_al (Below.refl _ _))) HUT.out w2.heap.size 0 rfl (cell_alloc_at _ _ _ _ _ rfl) (by omega) (fun v' w' h1 h2 h3 => ?_)
      obtain ⟨A', k', rfl⟩ := h1.shape
      have h1 := h1.cut
      have hown : ∀ k, (Value.slice Av outs.length kv).ownBlock = some k → T k := fun k hk => (HI.out.outs.own k hk).1
      have hF : Fr (fun k => k = bo ∨ T k) w w' := (Fr.below (below_al HB2.out)).trans (Fr.grown h2 fun k hk => .inr (hown k hk))
      have hFT : Fr T w w' := (Fr.below (below_al HB2.out)).trans (Fr.grown h2 fun k hk => hown k hk)
      have hnT : ¬ T bo := fun h => (HI.out.t bo h).2.2.1 rfl
      have b0 : w'.cell? ⟨bo, 0, none⟩ = some (.slice Av outs.length kv) := (hFT.cell (p := ⟨bo, 0, none⟩) hob hnT).trans HI.out.out
      have b1 : w'.frozen? ⟨bo, 0, none⟩ = false := (hFT.frozen (p := ⟨bo, 0, none⟩) hob hnT).trans HI.out.outf
      have HP : Hid (TrOut w0 bo (.slice (some ⟨bw, 0, none⟩) word.length kw) word T w (outs ++ [word]) (w'.setCell ⟨bo, 0, none⟩ (.slice A' (outs ++ [word]).length k'))) := by
        show TrOut _ _ _ _ _ _ _ _
        have hS : Fr (fun k => k = bo) w' (w'.setCell ⟨bo, 0, none⟩ (.slice A' (outs ++ [word]).length k')) := (Fr.refl _ w').set rfl
        have hA : Fr (fun k => k = bo ∨ T k) w (w'.setCell ⟨bo, 0, none⟩ (.slice A' (outs ++ [word]).length k')) := hF.set (.inl rfl)
        have hws : w.heap.size ≤ w2.heap.size := HB2.out.size
        have hsz : w2.heap.size < w'.heap.size := by have := h2.size; simp at this; omega
        refine ⟨_, _, World.cell?_setCell_same (h := b0) .., by rw [World.frozen?_setCell]; exact b1, h1.fr hS ?_, ?_, ?_⟩
        · rintro k ⟨hk | hk | hk, hk9⟩ e
          · exact hnT (e ▸ hk)
          · have := (Hu.out.blt k hk); have := (World.ownsRow.lt Hu.out k hk).1; have e : k = bo := e; omega
          · have e : k = bo := e; simp at hk; omega
        · rintro k ⟨hk | hk | hk, hk9⟩
          · exact ⟨.inl hk, by simpa using hk9⟩
          · exact ⟨.inr (World.ownsRow.lt Hu.out k hk).1, by simpa using hk9⟩
          · have hk8 := hk; simp at hk8; exact ⟨.inr (by omega), by simpa using hk9⟩
        · refine own_same HI.out.word fun k hk => hA.block k (HI.out.word.blt k hk) ?_
          obtain ⟨n1, _, n3⟩ := HI.out.wordn k hk
          rintro (e | e)
          · exact n1 e
          · exact n3 e
      have HF := Lib.hid hF
      refine hK' _ _ hF ?_
      clear hK' K' h1 h2 h3 hF hFT hown
      refine plan_one (step_op rfl rfl (fun K' hK' => ?_))
      go_simp
      refine hK' _ _ (HF.out.set (.inl rfl)) ?_; clear hK' K'
      refine plan_done ⟨?_, ?_, ?_, ?_, ?_, ?_, ?_⟩
      rotate_left 5
      · go_simp; (first | rfl | (and_intros <;> rfl))
      · exact by have h9 := HP.out; rw [show (outs ++ [word]).length = outs.length + 1 by simp] at h9; exact h9

end Go.Proofs.YtnoehaphbpkpjaaGreat
