/- Contracts and lemmas for the statements of this seat, written for this claim; each theorem states its own conditions. -/
import Derived.ArgAppend
import Derived.Deep.DeepAppendRoom
import Derived.Test.YtnoehaphbpkpjaaGreatFoTf1
set_option linter.unusedVariables false
set_option linter.unusedSimpArgs false
namespace Go.Proofs.YtnoehaphbpkpjaaGreat
open Go.RowKit
def trL (c : Int) (ts : List T4) (h n : Int) : List (List Int) := trWords (powC c h.toNat).toNat (lev c ts h.toNat) c.toNat n.toNat
def ctCode (lim : Nat) (c : Int) (ts : List T4) (h n : Int) : Int := if tsCode c ts h (inR 1 8 n) = 0 then (if lim < (trL c ts h n).length then 3 else 0) else tsCode c ts h (inR 1 8 n)
def ctVal (lim : Nat) (c : Int) (ts : List T4) (h n : Int) : Int := if ctCode lim c ts h n = 0 then (trL c ts h n).length else 0
def twVal (lim : Nat) (c : Int) (ts : List T4) (h n : Int) : List (List Int) := if ctCode lim c ts h n = 0 then trL c ts h n else []
theorem twVal_len (lim : Nat) (c : Int) (ts : List T4) (h n : Int) : ((twVal lim c ts h n).length : Int) = ctVal lim c ts h n := by
  unfold twVal ctVal; split <;> simp
set_option maxRecDepth 100000 in
set_option maxHeartbeats 1000000 in
theorem l10List_c (c : Int) (ts : List T4) (A : Option Addr) (cx : Nat) (h n : Int) (w : World) (hT : TileCells w A ts) (hl : ts.length ≤ 1000000000) :
    Calls Tryz.prog 56 #[.agg #[.int .i64 c, .slice A ts.length cx], .int .i64 h, .int .i64 n] w fun e w' => ∃ v, e = .returned (.tuple #[v, .int .i64 (ctCode 200 c ts h n)]) ∧ OwnII w' w.heap.size v (twVal 200 c ts h n) ∧ Below w.heap.size w w' := by
  have H1 := Lib.hid (fun w => l01In_c n 1 8 w)
  have H2 := Lib.hid (fun (wq : World) (hwq : Below w.heap.size w wq) => l10Code_c c ts A cx h (inR 1 8 n) wq (hT.below hwq) hl)
  have H3 := Lib.hid (fun (cn hn nn S : Nat) (hc : c = cn) h1 h6 (hh : hn ≤ 3) hS hS1 hS2 hC hcl (hnn : nn ≤ 100) (Ac : Option Addr) (kc : Nat) (wq : World) hR => l10Words_c cn ts.length cx A (lev c ts hn) Ac kc hn nn 201 S wq h1 h6 hh hS hS1 hS2 hC hcl hnn (by decide) (by decide) hR)
  have hcol : tsCols c ts h (inR 1 8 n) = if tsCode c ts h (inR 1 8 n) = 0 then lev c ts h.toNat else [] := rfl
  have hv1 : ctVal 200 c ts h n = if ctCode 200 c ts h n = 0 then ((trL c ts h n).length : Int) else 0 := rfl
  have hv2 : ctCode 200 c ts h n = if tsCode c ts h (inR 1 8 n) = 0 then (if 200 < (trL c ts h n).length then 3 else 0) else tsCode c ts h (inR 1 8 n) := rfl
  have hv3 : twVal 200 c ts h n = if ctCode 200 c ts h n = 0 then trL c ts h n else [] := rfl
  have hz := Lib.hid (tsCode_zero (c := c) (ts := ts) (h := h) (fine := inR 1 8 n))
  rw [hcol] at H2
  clear hT hcol
  generalize tsCode c ts h (inR 1 8 n) = code at *
  have hS : Below w.heap.size w (w.alloc (.cells #[.int .i64 c, .slice A ts.length cx] 32)) := below_al (Below.refl _ _)
  go_enter Tryz.func56, Tryz.ntmps56
  go_wp2_with fail
  obtain ⟨wt, hwt⟩ : ∃ wt, wt = w.alloc (.cells #[.int .i64 c, .slice A ts.length cx] 32) := ⟨_, rfl⟩
  rw [← hwt]
  rw [← hwt] at hS
  have U0 := keepC (show wt.cell? ⟨w.heap.size, 0, none⟩ = some (.int .i64 c) by rw [hwt]; exact cell_alloc_at _ _ _ _ _ rfl)
  have U1 := keepC (show wt.cell? ⟨w.heap.size, 1, none⟩ = some (.slice A ts.length cx) by rw [hwt]; exact cell_alloc_at _ _ _ _ _ rfl)
  have hN : w.heap.size < wt.heap.size := by rw [hwt]; simp
  replace hwt := Lib.hid hwt
  have HS := Lib.hid hS
  clear hS
  refine wp_region_mix [(0, true), (1, true), (2, true), (3, false), (4, false), (5, true), (6, true), (7, true), (8, true), (9, true)] (fun w' => Below (wt).heap.size (wt) w') (by kernel_rfl) (by kernel_rfl) (fun _ _ d _ _ h => by cases d <;> exact h) ((Below.refl _ _).drew) ?_
  repeat (first
    | (refine mix_skip rfl rfl (fun K' hK' => ?_); go_simp; refine hK' _ ?_; clear hK' K')
    | (refine mix_do (v := ?_) rfl rfl (fun w1 hb => ?_) (fun K' hK' => ?_); rotate_left
       · go_simp
         rfl
       go_simp; refine hK' _ ?_; clear hK' K'))
  refine mix_call rfl rfl (fun K' hK' => ?_)
  go_simp
  refine (H1.out _).mono ?_
  rintro e w1 ⟨rfl, rfl⟩
  refine hK' _ _ ((Below.refl _ wt).drew) ?_; clear hK' K'
  repeat (first
    | (refine mix_skip rfl rfl (fun K' hK' => ?_); go_simp; refine hK' _ ?_; clear hK' K')
    | (refine mix_do (v := ?_) rfl rfl (fun w1 hb => ?_) (fun K' hK' => ?_); rotate_left
       · go_simp
         rfl
       go_simp; refine hK' _ ?_; clear hK' K'))
  refine mix_call rfl rfl (fun K' hK' => ?_)
  go_simp
  refine (H2.out _ HS.out.drew).mono ?_
  rintro e w2 ⟨v, rfl, hO, hb2⟩
  have HB2 := Lib.hid (show Below wt.heap.size wt w2 from (Below.refl _ wt).drew.trans hb2)
  have HO := Lib.hid hO
  clear hb2 hO
  refine hK' _ _ (HB2.out) ?_; clear hK' K'
  repeat (first
    | (refine mix_skip rfl rfl (fun K' hK' => ?_); go_simp; refine hK' _ ?_; clear hK' K')
    | (refine mix_do (v := ?_) rfl rfl (fun w1 hb => ?_) (fun K' hK' => ?_); rotate_left
       · go_simp
         rfl
       go_simp; refine hK' _ ?_; clear hK' K'))
  refine mix_nil ?_
  have HW := Lib.hid (HS.out.trans (HB2.out.mono HS.out.size))
  by_cases hc0 : code = 0
  · subst hc0
    obtain ⟨hs, hf, n1, n3, hp⟩ := hz.out rfl
    obtain ⟨hn, rfl⟩ := Int.eq_ofNat_of_zero_le (by omega : 0 ≤ h)
    have hn8 : 1 ≤ n ∧ n ≤ 8 := by unfold inR at hf; simpa using hf
    obtain ⟨nn, rfl⟩ := Int.eq_ofNat_of_zero_le (by omega : 0 ≤ n)
    obtain ⟨_, ⟨c1, c6⟩, h16⟩ := isSetB_parts hs
    obtain ⟨cn, rfl⟩ := Int.eq_ofNat_of_zero_le (by omega : 0 ≤ c)
    have p1 := powC_4 c1 c6 (h := hn) (by omega)
    have hll := Nat.le_trans (lev_len cn ts hn) (pow16 h16 (by omega : hn ≤ 3))
    have HCs := Lib.hid (lev_Codes hs hn)
    rw [Int.toNat_natCast] at hp
    obtain ⟨S, hS'⟩ := Int.eq_ofNat_of_zero_le (by omega : 0 ≤ powC cn hn)
    have htr : trL cn ts hn nn = trWords S (lev cn ts hn) cn nn := by unfold trL; simp [hS']
    rw [if_pos rfl, Int.toNat_natCast] at HO
    rw [hS'] at p1 HCs
    rw [Int.toNat_natCast] at HCs
    obtain ⟨Ac, kc, rfl, hRc⟩ := HO.out.rows
    have HK := Lib.hid (H3.out cn hn nn S rfl (by omega) (by omega) (by omega) hS' (by omega) (by omega) HCs.out (by omega) (by omega) Ac kc w2 hRc)
    rw [crows_len]
    rw [htr] at hv1 hv2 hv3
    rw [if_pos rfl] at hv2
    have d0 := U0 _ HB2.out
    have d1 := U1 _ HB2.out
    have hN2 : w.heap.size < w2.heap.size := Nat.lt_of_lt_of_le hN HB2.out.size
    clear U0 U1 hRc htr hf n1 n3 hs h16 HCs H3 hp p1
    generalize trWords S (lev cn ts hn) cn nn = TW at *
    obtain ⟨ml, hml⟩ : ∃ ml, (TW.take 201).length = ml := ⟨_, rfl⟩
    go_wp2_with fail
    refine HK.out.mono ?_
    rintro e w3 ⟨v3, rfl, hO3, hb3⟩
    obtain ⟨A3, k3, rfl, _⟩ := hO3.rows
    rw [hml]
    have HW3 := Lib.hid (HW.out.trans (hb3.mono HW.out.size))
    have HO3 := Lib.hid hO3
    clear hO3 hb3
    by_cases hml2 : 200 < TW.length
    · have hml3 : ml = 201 := by rw [← hml, List.length_take]; omega
      subst hml3
      rw [if_pos hml2] at hv2
      rw [hv2] at hv1 hv3
      have hv3 := hv3
      clear d0 d1
      go_wp2
      go_ret2
      exact ⟨_, by rw [hv2]; rfl, by rw [hv3]; exact OwnII.nil _ _, HW3.out⟩
    · have hml3 : ml = TW.length := by rw [← hml, List.length_take]; omega
      subst hml3
      rw [List.take_of_length_le (by omega)] at HO3
      rw [if_neg hml2] at hv2
      rw [hv2] at hv1 hv3
      clear d0 d1
      go_wp2
      go_ret2
      exact ⟨_, by rw [hv2]; rfl, by rw [hv3]; exact HO3.out.weaken HW.out.size, HW3.out⟩
  · have hcz : (code != 0) = true := by simp [hc0]
    rw [if_neg hc0] at hv2
    rw [hv2, if_neg hc0] at hv1 hv3
    clear U0 U1
    go_wp2
    go_ret2
    exact ⟨_, by rw [hv2]; rfl, by rw [hv3]; exact OwnII.nil _ _, HW.out⟩

end Go.Proofs.YtnoehaphbpkpjaaGreat
namespace Go.Proofs.YtnoehaphbpkpjaaGreat
open Go.RowKit
theorem own_same {w w' : World} {B s : Nat} {e : TypeId} {v : Value} {n : Nat} {xs : List Value} (h : w.ownsRow B e s v n xs) (hk : ∀ k, v.ownBlock = some k → w'.heap[k]? = w.heap[k]?) : w'.ownsRow B e s v n xs := by
  obtain ⟨h1, h2⟩ := h
  refine ⟨h1, ?_⟩
  rcases h2 with h2 | ⟨g, cap, cur, rfl, e2, e3, e4⟩
  · exact .inl h2
  · exact .inr ⟨g, cap, cur, rfl, e2, (hk g rfl).trans e3, e4⟩
/-- blocks but some stay as they were -/
structure Fr (P : Nat → Prop) (w w' : World) : Prop where
  os : w'.os = w.os
  tape : w'.tape = w.tape
  output : w'.output = w.output
  size : w.heap.size ≤ w'.heap.size
  block : ∀ k, k < w.heap.size → ¬ P k → w'.heap[k]? = w.heap[k]?
theorem Fr.refl (P : Nat → Prop) (w : World) : Fr P w w := ⟨rfl, rfl, rfl, Nat.le_refl _, fun _ _ _ => rfl⟩
theorem Fr.trans {P : Nat → Prop} {w w1 w2 : World} (h : Fr P w w1) (g : Fr P w1 w2) : Fr P w w2 :=
  ⟨g.os.trans h.os, g.tape.trans h.tape, g.output.trans h.output, Nat.le_trans h.size g.size, fun k hk hp => (g.block k (Nat.lt_of_lt_of_le hk h.size) hp).trans (h.block k hk hp)⟩
/-- as trans, but what the second step may change is new or may change in the first one -/
theorem Fr.hop {P Q : Nat → Prop} {w w1 w2 : World} (h : Fr P w w1) (g : Fr Q w1 w2) (hq : ∀ k, Q k → P k ∨ w.heap.size ≤ k) : Fr P w w2 :=
  ⟨g.os.trans h.os, g.tape.trans h.tape, g.output.trans h.output, Nat.le_trans h.size g.size, fun k hk hp => (g.block k (Nat.lt_of_lt_of_le hk h.size) (fun q => by rcases hq k q with e | e; exact hp e; omega)).trans (h.block k hk hp)⟩
theorem Fr.mono {P Q : Nat → Prop} {w w1 : World} (h : Fr P w w1) (hq : ∀ k, k < w.heap.size → P k → Q k) : Fr Q w w1 :=
  ⟨h.os, h.tape, h.output, h.size, fun k hk hn => h.block k hk fun hp => hn (hq k hk hp)⟩
theorem Fr.grown {P : Nat → Prop} {w w1 : World} {o : Option Nat} (h : w.grownBy w1 o) (ho : ∀ k, o = some k → P k) : Fr P w w1 :=
  ⟨h.os, h.tape, h.output, h.size, fun k hk hn => h.block k hk fun e => hn (ho k e.symm)⟩
theorem Fr.below {P : Nat → Prop} {w w1 : World} (h : Below w.heap.size w w1) : Fr P w w1 := ⟨h.os, h.tape, h.output, h.size, fun k hk _ => h.block k hk⟩
theorem Fr.set {P : Nat → Prop} {w w1 : World} {g j : Nat} {v : Value} (h : Fr P w w1) (hg : P g) : Fr P w (w1.setCell ⟨g, j, none⟩ v) :=
  ⟨h.os, h.tape, h.output, by simpa using h.size, fun k hk hn => (Below.heap_setCell w1 ⟨g, j, none⟩ v k (fun e => hn (by have e : k = g := e; subst e; exact hg))).trans (h.block k hk hn)⟩
theorem Fr.setNew {P : Nat → Prop} {w w1 : World} {g j : Nat} {v : Value} (h : Fr P w w1) (hg : w.heap.size ≤ g) : Fr P w (w1.setCell ⟨g, j, none⟩ v) :=
  ⟨h.os, h.tape, h.output, by simpa using h.size, fun k hk hn => (Below.heap_setCell w1 ⟨g, j, none⟩ v k (fun e => by have e : k = g := e; omega)).trans (h.block k hk hn)⟩
theorem Fr.under {P : Nat → Prop} {w w1 : World} {B : Nat} (h : Fr P w w1) (hB : B ≤ w.heap.size) (hp : ∀ k, P k → B ≤ k) : Below B w w1 :=
  ⟨h.os, h.tape, h.output, h.size, fun k hk => h.block k (Nat.lt_of_lt_of_le hk hB) (fun e => by have := hp k e; omega)⟩
theorem Fr.cell {P : Nat → Prop} {w w1 : World} {p : Addr} (h : Fr P w w1) (hb : p.block < w.heap.size) (hp : ¬ P p.block) : w1.cell? p = w.cell? p := by
  unfold World.cell?; rw [h.block _ hb hp]
theorem Fr.frozen {P : Nat → Prop} {w w1 : World} {p : Addr} (h : Fr P w w1) (hb : p.block < w.heap.size) (hp : ¬ P p.block) : w1.frozen? p = w.frozen? p := by
  unfold World.frozen?; rw [h.block _ hb hp]
/-- a list of lists whose blocks lie in a set; its lists lie apart -/
def OutS (w : World) (T : Nat → Prop) (v : Value) (L : List (List Int)) : Prop :=
  ∃ vs : List Value, w.ownsRow 0 39 1 v L.length vs ∧ (∀ i (h : i < vs.length) (h' : i < L.length), OwnI w 0 vs[i] L[i]) ∧
    (∀ i j (h : i < vs.length) (h' : j < vs.length), i ≠ j → Apart vs[i] vs[j]) ∧ (∀ i (h : i < vs.length), Apart vs[i] v) ∧ (∀ k, v.ownBlock = some k → T k) ∧ ∀ i (h : i < vs.length) k, vs[i].ownBlock = some k → T k
theorem OutS.move {w w' : World} {T : Nat → Prop} {v : Value} {L : List (List Int)} (h : OutS w T v L) (hk : ∀ k, T k → k < w.heap.size → w'.heap[k]? = w.heap[k]?) : OutS w' T v L := by
  obtain ⟨vs, h1, h2, h3, h4, h5, h6⟩ := h
  exact ⟨vs, own_same h1 fun k e => hk k (h5 k e) (World.ownsRow.lt h1 k e).2, fun i hi hi' => own_same (h2 i hi hi') fun k e => hk k (h6 i hi k e) (World.ownsRow.lt (h2 i hi hi') k e).2, h3, h4, h5, h6⟩
theorem OutS.fr {w w' : World} {P T : Nat → Prop} {v : Value} {L : List (List Int)} (h : OutS w T v L) (hf : Fr P w w') (hn : ∀ k, T k → ¬ P k) : OutS w' T v L :=
  h.move fun k ht hl => hf.block k hl (hn k ht)
theorem OutS.below {w w' : World} {T : Nat → Prop} {v : Value} {L : List (List Int)} (h : OutS w T v L) (hb : Below w.heap.size w w') : OutS w' T v L :=
  h.move fun k _ hl => hb.block k hl
theorem OutS.toII {w : World} {T : Nat → Prop} {v : Value} {L : List (List Int)} {B : Nat} (h : OutS w T v L) (hB : ∀ k, T k → B ≤ k) : OwnII w B v L := by
  obtain ⟨vs, h1, h2, h3, h4, h5, h6⟩ := h
  have rb : ∀ {e s u n xs}, w.ownsRow 0 e s u n xs → (∀ k, u.ownBlock = some k → B ≤ k) → w.ownsRow B e s u n xs := fun {e s u n xs} ho hu => by
    obtain ⟨a1, a2⟩ := ho
    refine ⟨a1, ?_⟩
    rcases a2 with a2 | ⟨g, cap, cur, rfl, _, e3⟩
    · exact .inl a2
    · exact .inr ⟨g, cap, cur, rfl, hu g rfl, e3⟩
  exact ⟨vs, rb h1 fun k e => hB k (h5 k e), fun i hi hi' => rb (h2 i hi hi') fun k e => hB k (h6 i hi k e), h3, h4⟩
theorem OutS.shape {w : World} {T : Nat → Prop} {v : Value} {L : List (List Int)} (h : OutS w T v L) : ∃ A cx, v = .slice A L.length cx := by
  obtain ⟨vs, ⟨_, h1⟩, _⟩ := h
  rcases h1 with ⟨rfl, h2⟩ | ⟨g, cap, cur, rfl, _⟩
  · exact ⟨none, 0, by rw [h2]⟩
  · exact ⟨_, _, rfl⟩
theorem OutS.own {w : World} {T : Nat → Prop} {v : Value} {L : List (List Int)} (h : OutS w T v L) : ∀ k, v.ownBlock = some k → T k ∧ k < w.heap.size := by
  obtain ⟨vs, h1, _, _, _, h5, _⟩ := h
  exact fun k e => ⟨h5 k e, (World.ownsRow.lt h1 k e).2⟩
theorem OutS.cut {w : World} {T : Nat → Prop} {v : Value} {L : List (List Int)} (h : OutS w T v L) : OutS w (fun k => T k ∧ k < w.heap.size) v L := by
  obtain ⟨vs, h1, h2, h3, h4, h5, h6⟩ := h
  have hvl : vs.length = L.length := by have := h1.1; omega
  exact ⟨vs, h1, h2, h3, h4, fun k e => ⟨h5 k e, (World.ownsRow.lt h1 k e).2⟩, fun i hi k e => ⟨h6 i hi k e, (World.ownsRow.lt (h2 i hi (by omega)) k e).2⟩⟩
theorem app_rowS {o : Oper} {a : Act} {W : World} {K : Act → World → Prop} {Q : Exit → Act → World → Prop} (s x : Operand)
    (ho : o.op = .call { callee := .builtin .append, args := #[s, x], argTypes := #[42, 42] }) (T : Nat → Prop) (v : Value) (L : List (List Int)) (u : Value) (xs : List Int) (hs : a.eval s = v) (hown : OutS W T v L)
    (hu : OwnI W 0 u xs) (hut : ∀ k, u.ownBlock = some k → ¬ T k)
    (b off : Nat) (hx : a.eval x = .slice (some ⟨b, off, none⟩) 1 1) (hc : W.cell? ⟨b, off, none⟩ = some u) (hl : L.length ≤ 1000000000000)
    (h : ∀ v' w', OutS w' (fun k => T k ∨ u.ownBlock = some k ∨ k = W.heap.size) v' (L ++ [xs]) → W.grownBy w' v.ownBlock → (v'.ownBlock = v.ownBlock ∨ v'.ownBlock = some W.heap.size) → K (a.put o.dst v') w') : o.wp Tryz.prog a W K Q := by
  obtain ⟨vs, h1, h2, h3, h4, h5, h6⟩ := hown
  have hvl : vs.length = L.length := by have := h1.1; omega
  refine app_gen s x 42 39 (.slice none 0 0) 1 24 ho Tryz.underlying42 infoSl rfl (by decide) 0 v L.length vs hs h1 ⟨b, off, none⟩ 1 1 [u] hx rfl ?_ ?_ ?_ ?_ (Nat.zero_le _) ?_
  · intro j z hj
    cases j with
    | zero => simp at hj; subst hj; simpa [Addr.add] using hc
    | succ j => simp at hj
  · intro z hz
    simp at hz; subst hz
    obtain ⟨A, cx, rfl, _⟩ := hu.shape
    rfl
  · simp [maxLen]; omega
  · omega
  · intro v' w' k1 k2 k3
    have huv : Apart u v := by
      cases eu : u.ownBlock with
      | none => exact .inl eu
      | some k =>
        right; rw [eu]; intro e
        exact hut k eu (h5 k e.symm)
    have far : ∀ q (hq : q < vs.length), Apart vs[q] u := fun q hq => by
      cases eq : vs[q].ownBlock with
      | none => exact .inl eq
      | some k =>
        right; rw [eq]; intro e
        exact hut k e.symm (h6 q hq k eq)
    refine h v' w' ⟨vs ++ [u], by rw [List.length_append]; exact k1, fun i hi hi' => ?_, fun i j hi hj hij => ?_, fun i hi => ?_, fun k hk => ?_, fun i hi k hk => ?_⟩ k2 k3
    · by_cases e : i < vs.length
      · have e' : i < L.length := by omega
        rw [List.getElem_append_left e, List.getElem_append_left e']
        exact (h2 i e e').grown k2 (h4 i e)
      · have ei : i = vs.length := by simp at hi; omega
        subst ei
        rw [List.getElem_append_right (Nat.le_refl _), List.getElem_append_right (by omega)]
        simp only [Nat.sub_self, List.getElem_cons_zero, hvl]
        exact hu.grown k2 huv
    · by_cases e : i < vs.length
      · by_cases e2 : j < vs.length
        · rw [List.getElem_append_left e, List.getElem_append_left e2]; exact h3 i j e e2 hij
        · rw [List.getElem_append_left e, List.getElem_append_right (by omega)]
          simp only [show j - vs.length = 0 by simp at hj; omega, List.getElem_cons_zero]
          exact far i e
      · have e2 : j < vs.length := by simp at hi hj; omega
        rw [List.getElem_append_left e2, List.getElem_append_right (by omega)]
        simp only [show i - vs.length = 0 by simp at hi; omega, List.getElem_cons_zero]
        exact (far j e2).symm
    · by_cases e : i < vs.length
      · rw [List.getElem_append_left e]
        exact ((h4 i e).symm.app (h2 i e (by omega)).blt k3).symm
      · rw [List.getElem_append_right (by omega)]
        simp only [show i - vs.length = 0 by simp at hi; omega, List.getElem_cons_zero]
        exact (huv.symm.app hu.blt k3).symm
    · rcases k3 with e | e
      · exact .inl (h5 k (by rw [← e, hk]))
      · right; right; rw [e] at hk; injection hk with hk; exact hk.symm
    · by_cases e : i < vs.length
      · rw [List.getElem_append_left e] at hk; exact .inl (h6 i e k hk)
      · rw [List.getElem_append_right (by omega)] at hk
        simp only [show i - vs.length = 0 by simp at hi; omega, List.getElem_cons_zero] at hk
        exact .inr (.inl hk)
/-- a number put behind a word: the word itself can still be read -/
theorem app_word {o : Oper} {a : Act} {W : World} {K : Act → World → Prop} {Q : Exit → Act → World → Prop} (s x : Operand)
    (ho : o.op = .call { callee := .builtin .append, args := #[s, x], argTypes := #[39, 39] }) (B : Nat) (v : Value) (xs : List Int) (y : Int) (hs : a.eval s = v) (hown : OwnI W B v xs)
    (b off : Nat) (hx : a.eval x = .slice (some ⟨b, off, none⟩) 1 1) (hc : W.cell? ⟨b, off, none⟩ = some (.int .i64 y)) (hl : xs.length ≤ 1000000000000) (hB : B ≤ W.heap.size)
    (h : ∀ v' w', OwnI w' B v' (xs ++ [y]) → OwnI w' B v xs → W.grownBy w' v.ownBlock → (v'.ownBlock = v.ownBlock ∨ ∃ k, v'.ownBlock = some k ∧ W.heap.size ≤ k) → K (a.put o.dst v') w') : o.wp Tryz.prog a W K Q := by
  have hnews : ∀ j u, ([.int .i64 y] : List Value)[j]? = some u → W.cell? ((⟨b, off, none⟩ : Addr).add j) = some u := by
    intro j z hj
    cases j with
    | zero => simp at hj; subst hj; simpa [Addr.add] using hc
    | succ j => simp at hj
  have hone : ∀ u ∈ ([.int .i64 y] : List Value), u.oneCell' = true := by intro z hz; simp at hz; subst hz; rfl
  obtain ⟨i, hi, hzz⟩ := Option.map_eq_some_iff.1 infoInt
  simp only [Prod.mk.injEq] at hzz
  obtain ⟨hz, hsize, hby⟩ := hzz
  have hcat : ints (xs ++ [y]) = ints xs ++ [.int .i64 y] := by simp [ints]
  have go : ∀ v' w', (Builtin.append_ #[39, 39] o.type #[v, .slice (some ⟨b, off, none⟩) 1 1]).run Tryz.prog W = .ok v' w' → K (a.put o.dst v') w' → o.wp Tryz.prog a W K Q := fun v' w' hr hk => by
    unfold Oper.wp execOp
    simp only [ho, resolve, invoke, builtin, Sem.run_bind, Sem.run_pure, Result.andThen_ok, List.map_toArray, List.map_cons, List.map_nil, hs, hx, hr]
    exact hk
  obtain ⟨hlen, hv⟩ := id hown
  rcases hv with ⟨rfl, h0⟩ | ⟨g, cap, cur, rfl, e2, e3, e4, e5, e6, e7⟩
  · obtain ⟨v', w', hr, k1, k2, _, k3⟩ := run_append_own_at (P := Tryz.prog) W B 39 o.type 2 i (.int .i64 0) 1 8 Tryz.underlying39 hi hz hsize hby rfl (by decide) _ xs.length (ints xs) hown ⟨b, off, none⟩ 1 1 [.int .i64 y] rfl hnews hone (by simp [maxLen]; omega) (by omega) hB
    refine go v' w' hr (h v' w' ?_ ?_ k2 ?_)
    · show w'.ownsRow B _ _ _ (xs ++ [y]).length _
      rw [hcat, List.length_append]; exact k1
    · obtain rfl : xs = [] := List.eq_nil_of_length_eq_zero h0
      exact World.ownsRow_nil _ _ _ _
    · rcases k3 with e | e
      · exact .inl e
      · exact .inr ⟨_, e, Nat.le_refl _⟩
  · by_cases hr : xs.length + 1 ≤ cap
    · obtain ⟨w', k0, k1, k2⟩ := run_append_own_spare (P := Tryz.prog) W B 39 o.type 2 i 1 Tryz.underlying39 hi hsize g xs.length cap (ints xs) hown ⟨b, off, none⟩ 1 1 [.int .i64 y] rfl hnews hone hr
      refine go _ w' k0 (h _ w' ?_ ?_ k2 (.inl rfl))
      · show w'.ownsRow B _ _ _ (xs ++ [y]).length _
        rw [hcat, List.length_append]; exact k1
      · obtain ⟨_, q⟩ := k1
        rcases q with ⟨q, _⟩ | ⟨g2, cap2, cur2, q1, q2, q3, q4, q5, q6, q7⟩
        · cases q
        · injection q1 with a1 a2 a3
          injection a1 with a1; injection a1 with a1
          subst a1 a3
          refine ⟨hlen, .inr ⟨g, cap, cur2, rfl, e2, q3, e4, e5, q6, ?_⟩⟩
          have e1 : cur2.toList.take (xs.length * 1) = (cur2.toList.take ((xs.length + 1) * 1)).take xs.length := by rw [List.take_take, Nat.mul_one, Nat.mul_one, Nat.min_eq_left (Nat.le_succ _)]
          rw [e1, q7, List.take_append_of_le_length (by simp [ints])]
          exact List.take_of_length_le (by simp [ints])
    · obtain ⟨v', w', k0, k1, k2⟩ := run_append_arg_grows (P := Tryz.prog) W 39 o.type 2 i (.int .i64 0) 1 8 Tryz.underlying39 hi hz hsize hby rfl (by decide) ⟨g, 0, none⟩ xs.length cap (ints xs) hlen (World.ownsRow.cells hown (g := g) rfl) ⟨b, off, none⟩ 1 1 [.int .i64 y] rfl hnews (by omega) (by simp [maxLen]; omega) (by omega)
      have k9 : OwnI w' W.heap.size v' (xs ++ [y]) := by
        show w'.ownsRow W.heap.size _ _ _ (xs ++ [y]).length _
        rw [hcat, List.length_append]; exact k1
      refine go v' w' k0 (h v' w' (k9.weaken hB) (own_same hown fun k hk => k2.block k (World.ownsRow.lt hown k hk).2 (by simp)) ⟨k2.os, k2.tape, k2.output, k2.size, fun k hk _ => k2.block k hk (by simp)⟩ ?_)
      rcases k1.2 with ⟨_, e⟩ | ⟨g2, _, _, rfl, e, _⟩
      · omega
      · exact .inr ⟨g2, rfl, e⟩

end Go.Proofs.YtnoehaphbpkpjaaGreat
namespace Go.Proofs.YtnoehaphbpkpjaaGreat
open Go.RowKit
theorem make_bb (n : Nat) (h : n ≤ 1000) (w : World) : (Instr.makeSlice 112 (.int .i64 (n : Int)) (.int .i64 (n : Int))).run Tryz.prog w = .ok (.slice (some ⟨w.heap.size, 0, none⟩) n n) (w.alloc (.cells (madeCells #[.slice none 0 0] n) 91)) := by
  have := make_k (P := Tryz.prog) 112 91 _ 1 24 Tryz.underlying112 infoSlB n (by omega) (by omega) w
  rw [Nat.mul_one] at this
  exact this
/-- for each colour, the words that a column of this colour leads to, if there is a column -/
def NexS (w : World) (lo g S c : Nat) (F : Nat → Option (List Bool)) : Prop :=
  ∃ (vs : List Value) (bl : Nat → Nat), w.ownsRow lo 91 1 (.slice (some ⟨g, 0, none⟩) c c) c vs ∧
    (∀ x, x < c → (F x = none → vs[x]? = some (.slice none 0 0)) ∧ ∀ xs, F x = some xs → vs[x]? = some (.slice (some ⟨bl x, 0, none⟩) S S) ∧ bl x ≠ g ∧ OwnB w lo (.slice (some ⟨bl x, 0, none⟩) S S) xs) ∧
    ∀ x y, x < c → y < c → x ≠ y → F x ≠ none → F y ≠ none → bl x ≠ bl y
theorem NexS.move {w w' : World} {lo g S c : Nat} {F : Nat → Option (List Bool)} (h : NexS w lo g S c F) (hk : ∀ k, lo ≤ k → k < w.heap.size → w'.heap[k]? = w.heap[k]?) : NexS w' lo g S c F := by
  obtain ⟨vs, bl, h1, h3, h4⟩ := h
  refine ⟨vs, bl, own_same h1 fun k e => hk k (World.ownsRow.lt h1 k e).1 (World.ownsRow.lt h1 k e).2, fun x hx => ?_, h4⟩
  obtain ⟨f1, f2⟩ := h3 x hx
  refine ⟨f1, fun xs e => ?_⟩
  obtain ⟨g1, g2, g3⟩ := f2 xs e
  exact ⟨g1, g2, own_same g3 fun k hk2 => hk k (g3.lt k hk2).1 (g3.lt k hk2).2⟩
theorem NexS.below {w w' : World} {lo g S c : Nat} {F : Nat → Option (List Bool)} (h : NexS w lo g S c F) (hb : Below w.heap.size w w') : NexS w' lo g S c F := h.move fun k _ hk => hb.block k hk
theorem NexS.at_ {w : World} {lo g S c : Nat} {F : Nat → Option (List Bool)} (h : NexS w lo g S c F) {x : Nat} (hx : x < c) : lo ≤ g ∧ g < w.heap.size ∧ w.frozen? ⟨g, x, none⟩ = false ∧
    ((F x = none ∧ w.cell? ⟨g, x, none⟩ = some (.slice none 0 0)) ∨ ∃ b xs, F x = some xs ∧ w.cell? ⟨g, x, none⟩ = some (.slice (some ⟨b, 0, none⟩) S S) ∧ OwnB w lo (.slice (some ⟨b, 0, none⟩) S S) xs) := by
  obtain ⟨vs, bl, h1, h3, h4⟩ := h
  obtain ⟨f1, f2⟩ := h3 x hx
  obtain ⟨q1, q2⟩ := World.ownsRow.lt h1 g rfl
  have hc := World.ownsRow.cellAt h1 x (by omega)
  refine ⟨q1, q2, World.ownsRow.frozenAt h1 x, ?_⟩
  cases e : F x with
  | none => exact .inl ⟨rfl, hc.trans (f1 e)⟩
  | some xs => obtain ⟨g1, g2, g3⟩ := f2 xs e; exact .inr ⟨bl x, xs, rfl, hc.trans g1, g3⟩
theorem NexS.made (w : World) (S c : Nat) (hc : c ≤ 1000) : NexS (w.alloc (.cells (madeCells #[.slice none 0 0] c) 91)) w.heap.size w.heap.size S c (fun _ => none) := by
  have h := World.ownsRow_lit (base := w.heap.size) (e := 91) (size := 1) w (madeCells #[.slice none 0 0] c) c (Nat.le_refl _) (by simp [maxLen]; omega) (by simp [madeCells])
  rw [toList_madeCells_one] at h
  exact ⟨_, fun _ => 0, h, fun x hx => ⟨fun _ => by simp [hx], fun xs e => by cases e⟩, fun x y _ _ _ e => absurd rfl e⟩
/-- a new row of truth values, put in its place -/
theorem NexS.new {w : World} {lo g S c : Nat} {F : Nat → Option (List Bool)} (h : NexS w lo g S c F) {x : Nat} (hx : x < c) (hF : F x = none) (hS : S ≤ 1000000000) (hlo : lo ≤ w.heap.size) :
    NexS ((w.alloc (.cells (madeCells #[.bool false] S) 4)).setCell ⟨g, x, none⟩ (.slice (some ⟨w.heap.size, 0, none⟩) S S)) lo g S c (fun y => if y = x then some (List.replicate S false) else F y) := by
  obtain ⟨vs, bl, h1, h3, h4⟩ := h
  obtain ⟨q1, q2⟩ := World.ownsRow.lt h1 g rfl
  obtain ⟨s1, s2⟩ := World.ownsRow.stored (World.ownsRow.alloc h1 (.cells (madeCells #[.bool false] S) 4)) x (.slice (some ⟨w.heap.size, 0, none⟩) S S)
  have hvl : vs.length = c := by have := h1.1; omega
  have hold : ∀ y, y < c → y ≠ x → ∀ xs, F y = some xs → bl y < w.heap.size := fun y hy _ xs e => by
    obtain ⟨_, _, g3⟩ := (h3 y hy).2 xs e
    exact (g3.lt _ rfl).2
  refine ⟨_, fun y => if y = x then w.heap.size else bl y, s1, fun y hy => ?_, fun y z hy hz hyz e1 e2 => ?_⟩
  · by_cases e : y = x
    · subst e
      refine ⟨fun e => by simp at e, fun xs e => ?_⟩
      simp at e
      subst e
      refine ⟨by simp [List.getElem?_set, hvl, hy], by simp; omega, ?_⟩
      simp only [if_true]
      exact (OwnB.made w lo S hlo hS).grown s2 (.inr (by simp [Value.ownBlock]; omega))
    · obtain ⟨f1, f2⟩ := h3 y hy
      simp only [if_neg e]
      rw [List.getElem?_set_ne (Ne.symm e)]
      refine ⟨f1, fun xs e9 => ?_⟩
      obtain ⟨g1, g2, g3⟩ := f2 xs e9
      exact ⟨g1, g2, (g3.below (below_al (Below.refl _ _))).grown s2 (.inr (by simp [Value.ownBlock]; exact g2))⟩
  · by_cases ey : y = x
    · have ez : z ≠ x := fun e => hyz (ey.trans e.symm)
      simp only [if_neg ez] at e2
      simp only [if_pos ey, if_neg ez]
      obtain ⟨xs, e9⟩ := Option.ne_none_iff_exists'.1 e2
      have := hold z hz ez xs e9
      omega
    · simp only [if_neg ey] at e1
      by_cases ez : z = x
      · simp only [if_neg ey, if_pos ez]
        obtain ⟨xs, e9⟩ := Option.ne_none_iff_exists'.1 e1
        have := hold y hy ey xs e9
        omega
      · simp only [if_neg ez] at e2
        simp only [if_neg ey, if_neg ez]
        exact h4 y z hy hz hyz e1 e2
theorem NexS.set {w : World} {lo g S c b : Nat} {F : Nat → Option (List Bool)} {xs : List Bool} (h : NexS w lo g S c F) {x : Nat} (hx : x < c) (hF : F x = some xs) (hc : w.cell? ⟨g, x, none⟩ = some (.slice (some ⟨b, 0, none⟩) S S)) (e : Nat) :
    NexS (w.setCell ⟨b, e, none⟩ (.bool true)) lo g S c (fun y => if y = x then some (xs.set e true) else F y) := by
  obtain ⟨vs, bl, h1, h3, h4⟩ := h
  obtain ⟨g1, g2, g3⟩ := (h3 x hx).2 xs hF
  have hb : b = bl x := by
    have h9 := (World.ownsRow.cellAt h1 x (by omega)).symm.trans hc
    rw [g1] at h9
    injection h9 with h9; injection h9 with h9; injection h9 with h9; injection h9 with h9; exact h9.symm
  subst hb
  obtain ⟨s1, s2⟩ := g3.set e true
  refine ⟨vs, bl, World.ownsRow.kept h1 s2 (.inr (by simp [Value.ownBlock]; exact Ne.symm g2)), fun y hy => ?_, fun y z hy hz hyz e1 e2 => ?_⟩
  · by_cases ey : y = x
    · subst ey
      refine ⟨fun e => by simp at e, fun zs ez => ?_⟩
      simp at ez
      subst ez
      exact ⟨g1, g2, s1⟩
    · simp only [if_neg ey]
      obtain ⟨f1, f2⟩ := h3 y hy
      refine ⟨f1, fun zs ez => ?_⟩
      obtain ⟨k1, k2, k3⟩ := f2 zs ez
      exact ⟨k1, k2, k3.grown s2 (.inr (by simp [Value.ownBlock]; exact h4 y x hy hx ey (by rw [ez]; simp) (by rw [hF]; simp)))⟩
  · refine h4 y z hy hz hyz ?_ ?_
    · by_cases ey : y = x
      · subst ey; rw [hF]; simp
      · simpa only [if_neg ey] using e1
    · by_cases ez : z = x
      · subst ez; rw [hF]; simp
      · simpa only [if_neg ez] using e2
def nexF (S : Nat) (cols : List Col) (now far : List Bool) (x : Nat) : Option (List Bool) := if xsome cols x now far = true then some (xgo S cols x now far) else none
theorem xgo_none {S : Nat} {cols : List Col} {x : Int} {now far : List Bool} (h : xsome cols x now far = false) : xgo S cols x now far = List.replicate S false := by
  unfold xgo
  suffices ∀ nx : List Bool, cols.foldl (xstep x now far) nx = nx from this _
  unfold xsome at h
  intro nx
  induction cols generalizing nx with
  | nil => rfl
  | cons k l ih =>
    simp only [List.any_cons, Bool.or_eq_false_iff] at h
    rw [List.foldl_cons, ih h.2]
    unfold xstep
    rw [if_neg (by rw [h.1]; simp)]
theorem nexF_nil (S : Nat) (now far : List Bool) : nexF S [] now far = fun _ => none := by funext x; simp [nexF, xsome]
/-- a column that cannot be used changes nothing -/
theorem nexF_skip {S : Nat} {cols : List Col} {now far : List Bool} {j : Nat} (hj : j < cols.length) (h : (now.getD cols[j].w.toNat false && far.getD cols[j].e.toNat false) = false) : nexF S (cols.take (j + 1)) now far = nexF S (cols.take j) now far := by
  funext x
  have e1 := xsome_take cols x now far j hj
  have e2 := xgo_take S cols x now far j hj
  rw [Bool.and_assoc, h, Bool.and_false, Bool.or_false] at e1
  unfold xstep at e2
  rw [Bool.and_assoc, h, Bool.and_false, if_neg (by simp)] at e2
  unfold nexF
  rw [e1, e2]
/-- a column that can be used changes the words of its own colour -/
theorem nexF_use {S : Nat} {cols : List Col} {now far : List Bool} {j : Nat} (hj : j < cols.length) {n : Nat} (hn : cols[j].n = n) (h : (now.getD cols[j].w.toNat false && far.getD cols[j].e.toNat false) = true) :
    nexF S (cols.take (j + 1)) now far = fun x => if x = n then some (((nexF S (cols.take j) now far n).getD (List.replicate S false)).set cols[j].e.toNat true) else nexF S (cols.take j) now far x := by
  funext x
  have e1 := xsome_take cols x now far j hj
  have e2 := xgo_take S cols x now far j hj
  rw [Bool.and_assoc, h, Bool.and_true, hn] at e1
  unfold xstep at e2
  rw [Bool.and_assoc, h, Bool.and_true, hn] at e2
  by_cases hx : x = n
  · subst hx
    rw [if_pos rfl]
    rw [if_pos (by simp)] at e2
    unfold nexF
    rw [e1, e2]
    cases h9 : xsome (cols.take j) x now far
    · simp [xgo_none h9]
    · simp
  · rw [if_neg hx]
    have h8 : ((x : Int) == (n : Int)) = false := by simp; omega
    rw [h8, Bool.or_false] at e1
    rw [h8, if_neg (by simp)] at e2
    unfold nexF
    rw [e1, e2]

end Go.Proofs.YtnoehaphbpkpjaaGreat
