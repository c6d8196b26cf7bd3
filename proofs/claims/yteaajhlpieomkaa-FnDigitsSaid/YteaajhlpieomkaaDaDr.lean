/- Contracts and lemmas for the statements of this seat, written for this claim; each theorem states its own conditions. -/
import Derived.Test.YteaajhlpieomkaaDaSr
import Derived.Test.YteaajhlpieomkaaDaN8b
import Derived.Test.YteaajhlpieomkaaDaHd
import Derived.Test.YteaajhlpieomkaaDaAp
set_option linter.unusedVariables false
set_option linter.unusedSimpArgs false
namespace Go.Proofs.Yteaajhlpieomkaa
open Go.RowKit
attribute [local go_sem] addUpon_value addUpon_skip addUpon_enter
set_option maxRecDepth 100000 in
set_option maxHeartbeats 1000000 in
theorem DrawDigitsOf_c (A : Option Addr) (cx : Nat) (code : List Int) (w : World) (h : BytesC w A code) (hok : BytesOk code) :
    Calls Try.prog 5 #[.slice A code.length cx] w fun e w' => ∃ a b p n : Int, e = .returned (.tuple #[.int .i64 a, .int .i64 b, .int .i64 p, .int .i64 n]) ∧ Below w.heap.size w w' := by
  have HF := Lib.hid (l01From_c A cx code w h hok)
  clear h hok
  go_enter Try.func5, Try.ntmps5
  go_wp2_with fail
  refine HF.out.mono ?_
  rintro e w1 ⟨g, rfl, hlt, hS, hb⟩
  have HS := Lib.hid hS
  have HL := Lib.hid hlt
  have HB := Lib.hid hb
  clear hS hlt hb
  go_wp2_with fail
  refine (l08DrawFraction_c g code _ HS.out).mono ?_
  rintro e w2 ⟨a, b, rfl, hS, hg⟩
  have HS2 := Lib.hid hS
  have HG := Lib.hid hg
  clear hS hg
  go_wp2_with fail
  refine (l08DrawPlace_c g code _ HS2.out).mono ?_
  rintro e w3 ⟨p, n, rfl, hS, hg⟩
  have HG2 := Lib.hid hg
  clear hS hg
  go_wp2_with fail
  (try simp only [Exit.inBlock, Exit.then]); refine bodyPost_ret (results_tmp4 rfl _ _ _) rfl ?_
  exact ⟨_, _, _, _, rfl, below_src HB.out (HG.out.trans HG2.out) HL.out⟩
set_option maxRecDepth 100000 in
set_option maxHeartbeats 1000000 in
theorem DrawCarriesOf_c (A : Option Addr) (cx : Nat) (code : List Int) (w : World) (h : BytesC w A code) (hok : BytesOk code) :
    Calls Try.prog 12 #[.slice A code.length cx] w fun e w' => ∃ p q a b s n : Int, e = .returned (.tuple #[.int .i64 p, .int .i64 q, .int .i64 a, .int .i64 b, .int .i64 s, .int .i64 n]) ∧ Below w.heap.size w w' := by
  have HF := Lib.hid (l01From_c A cx code w h hok)
  clear h hok
  go_enter Try.func12, Try.ntmps12
  go_wp2_with fail
  refine HF.out.mono ?_
  rintro e w1 ⟨g, rfl, hlt, hS, hb⟩
  have HS := Lib.hid hS
  have HL := Lib.hid hlt
  have HB := Lib.hid hb
  clear hS hlt hb
  go_wp2_with fail
  refine (l08DrawFactor_c g code _ HS.out).mono ?_
  rintro e w2 ⟨p, q, rfl, hS, hg⟩
  have HS2 := Lib.hid hS
  have HG := Lib.hid hg
  clear hS hg
  go_wp2_with fail
  refine (l08DrawFraction_c g code _ HS2.out).mono ?_
  rintro e w3 ⟨a, b, rfl, hS, hg⟩
  have HS3 := Lib.hid hS
  have HG2 := Lib.hid hg
  clear hS hg
  go_wp2_with fail
  refine (l08DrawPlace_c g code _ HS3.out).mono ?_
  rintro e w4 ⟨s, n, rfl, hS, hg⟩
  have HG3 := Lib.hid hg
  clear hS hg
  go_wp2_with fail
  (try simp only [Exit.inBlock, Exit.then]); refine bodyPost_ret (results_tmp6 rfl _ _ _) rfl ?_
  exact ⟨_, _, _, _, _, _, rfl, below_src HB.out ((HG.out.trans HG2.out).trans HG3.out) HL.out⟩
theorem OwnI.src {w w1 : World} {B g : Nat} {v : Value} {xs : List Int} (h : OwnI w B v xs) (hg : w.grownBy w1 (some g)) (hlt : g < B) : OwnI w1 B v xs :=
  h.grown hg (by cases e : v.ownBlock with | none => exact .inl rfl | some k => exact .inr (fun e2 => by injection e2 with e2; have := (World.ownsRow.lt h k e).1; omega))
set_option maxRecDepth 100000 in
set_option maxHeartbeats 1000000 in
theorem DrawIntervalOf_c (A : Option Addr) (cx : Nat) (code : List Int) (w : World) (h : BytesC w A code) (hok : BytesOk code) :
    Calls Try.prog 9 #[.slice A code.length cx] w fun e w' => ∃ v xs, e = .returned v ∧ OwnI w' w.heap.size v xs ∧ xs.length ≤ 1000 ∧ Below w.heap.size w w' := by
  have HF := Lib.hid (l01From_c A cx code w h hok)
  clear h hok
  go_enter Try.func9, Try.ntmps9
  go_wp2_with fail
  refine HF.out.mono ?_
  rintro e w1 ⟨g, rfl, hlt, hS, hb⟩
  have HS := Lib.hid hS
  have HL := Lib.hid hlt
  have HB := Lib.hid hb
  have HG := Lib.hid (World.grownBy.refl w1 (some g))
  clear hS hlt hb
  go_wp2_with fail
  refine (l08DrawFraction_c g code _ HS.out).mono ?_
  rintro e w2 ⟨a, b, rfl, hS, hg⟩
  replace HS := Lib.hid hS
  replace HG := Lib.hid (HG.out.trans hg)
  clear hS hg
  go_wp2_with fail
  refine (l08DrawPlace_c g code _ HS.out).mono ?_
  rintro e w3 ⟨p, n, rfl, hS, hg⟩
  replace HS := Lib.hid hS
  replace HG := Lib.hid (HG.out.trans hg)
  clear hS hg
  have H1 := Lib.hid (fun w => l08Fraction_c a b w)
  have H2 := Lib.hid (fun w => l08Places_c 1 n w)
  have i1 := Lib.hid (fracB_iff (a := a) (b := b)).1
  have i2 := Lib.hid (placesB_iff (p := 1) (n := n)).1
  generalize fracB a b = f at *
  generalize placesB 1 n = q at *
  have HO := Lib.hid (OwnI.made w3 (g + 1) #[] [] rfl HS.out.lt (by simp))
  cases f
  · go_wp2_with fail
    refine (H1.out _).mono ?_
    rintro e w1 ⟨rfl, rfl⟩
    go_wp2_with fail
    replace HS := Lib.hid (HS.out.alloc (.cells #[] 2))
    replace HG := Lib.hid (HG.out.trans (World.grownBy_alloc w3 (.cells #[] 2) _))
    refine (l01Next_c g code _ _ HS.out).mono ?_
    rintro e w5 ⟨r5, rfl, a5, b5, c5, S, G⟩
    replace HO := Lib.hid (HO.out.src G (Nat.lt_succ_self _))
    replace HG := Lib.hid (HG.out.trans G)
    replace HS := Lib.hid S
    clear S G a5 b5 c5
    by_cases h0 : r5 = 0
    · subst h0
      go_wp2_with fail
      go_ret
      exact ⟨_, _, rfl, HO.out.weaken (by have := HL.out; omega), by (first | omega | simp), below_src HB.out HG.out HL.out⟩
    · replace h0 : (r5 == 0) = false := by simp [h0]
      by_cases h1 : r5 = 1
      · subst h1
        go_wp2_with fail
        refine (pick_new g code _ HS.out _ _ [0, 1, 2, 6, -1] _ rfl rfl (by simp)).mono ?_
        rintro e w6 ⟨r6, rfl, m6, S, G⟩
        replace HO := Lib.hid (HO.out.src G (Nat.lt_succ_self _))
        replace HG := Lib.hid (HG.out.trans G)
        replace HS := Lib.hid S
        clear S G m6
        go_wp2_with (at_builtin; refine Hold.of ?_)
        refine Hold.to ?_
        refine wpl_app_int rfl (.tmp 50) (.tmp 54) rfl (g + 1) _ _ r6 rfl (HO.out.alloc _) w6.heap.size 0 rfl (cell_alloc_at _ _ _ _ _ rfl) (by first | omega | simp) (by have := HS.out.lt; simp; omega) (fun v' w' h1 h2 h3 => ?_)
        have hb : Below w.heap.size w w' := below_grown (below_al (below_src HB.out HG.out HL.out)) h2 (HO.out.alloc _) (by have := HL.out; omega)
        have H8 := Lib.hid (And.intro h1 hb)
        clear h1 h2 h3 hb
        go_wp2_with fail
        go_ret
        exact ⟨_, _, rfl, H8.out.1.weaken (by have := HL.out; omega), by (first | (simp; done) | (simp; omega)), H8.out.2⟩
      · replace h1 : (r5 == 1) = false := by simp [h1]
        go_wp2_with fail
        go_ret
        exact ⟨_, _, rfl, HO.out.weaken (by have := HL.out; omega), by (first | omega | simp), below_src HB.out HG.out HL.out⟩
  · cases q
    · go_wp2_with fail
      refine (H1.out _).mono ?_
      rintro e w1 ⟨rfl, rfl⟩
      go_wp2_with fail
      refine (H2.out _).mono ?_
      rintro e w1 ⟨rfl, rfl⟩
      go_wp2_with fail
      replace HS := Lib.hid (HS.out.alloc (.cells #[] 2))
      replace HG := Lib.hid (HG.out.trans (World.grownBy_alloc w3 (.cells #[] 2) _))
      refine (l01Next_c g code _ _ HS.out).mono ?_
      rintro e w5 ⟨r5, rfl, a5, b5, c5, S, G⟩
      replace HO := Lib.hid (HO.out.src G (Nat.lt_succ_self _))
      replace HG := Lib.hid (HG.out.trans G)
      replace HS := Lib.hid S
      clear S G a5 b5 c5
      by_cases h0 : r5 = 0
      · subst h0
        go_wp2_with fail
        go_ret
        exact ⟨_, _, rfl, HO.out.weaken (by have := HL.out; omega), by (first | omega | simp), below_src HB.out HG.out HL.out⟩
      · replace h0 : (r5 == 0) = false := by simp [h0]
        by_cases h1 : r5 = 1
        · subst h1
          go_wp2_with fail
          refine (pick_new g code _ HS.out _ _ [0, 1, 2, 6, -1] _ rfl rfl (by simp)).mono ?_
          rintro e w6 ⟨r6, rfl, m6, S, G⟩
          replace HO := Lib.hid (HO.out.src G (Nat.lt_succ_self _))
          replace HG := Lib.hid (HG.out.trans G)
          replace HS := Lib.hid S
          clear S G m6
          go_wp2_with (at_builtin; refine Hold.of ?_)
          refine Hold.to ?_
          refine wpl_app_int rfl (.tmp 50) (.tmp 54) rfl (g + 1) _ _ r6 rfl (HO.out.alloc _) w6.heap.size 0 rfl (cell_alloc_at _ _ _ _ _ rfl) (by first | omega | simp) (by have := HS.out.lt; simp; omega) (fun v' w' h1 h2 h3 => ?_)
          have hb : Below w.heap.size w w' := below_grown (below_al (below_src HB.out HG.out HL.out)) h2 (HO.out.alloc _) (by have := HL.out; omega)
          have H8 := Lib.hid (And.intro h1 hb)
          clear h1 h2 h3 hb
          go_wp2_with fail
          go_ret
          exact ⟨_, _, rfl, H8.out.1.weaken (by have := HL.out; omega), by (first | (simp; done) | (simp; omega)), H8.out.2⟩
        · replace h1 : (r5 == 1) = false := by simp [h1]
          go_wp2_with fail
          go_ret
          exact ⟨_, _, rfl, HO.out.weaken (by have := HL.out; omega), by (first | omega | simp), below_src HB.out HG.out HL.out⟩
    · obtain ⟨⟨q1, q2⟩, q3, q4⟩ := i1.out rfl
      obtain ⟨_, q7, q8⟩ := i2.out rfl
      obtain ⟨m, rfl⟩ := Int.eq_ofNat_of_zero_le (by omega : 0 ≤ n)
      have HD := Lib.hid (fun w => l08Digits_c a b 1 m w q3 (by omega) q1 (by omega) (by omega) (by omega) (by omega))
      have hm : (digs a b 1 m).length ≤ 20 := by simp [digs]; omega
      generalize digs a b 1 m = xs at *
      clear HO
      go_wp2_with fail
      refine (H1.out _).mono ?_
      rintro e w1 ⟨rfl, rfl⟩
      go_wp2_with fail
      refine (H2.out _).mono ?_
      rintro e w1 ⟨rfl, rfl⟩
      go_wp2_with fail
      refine (HD.out _).mono ?_
      rintro e w4 ⟨v, rfl, hO, hb1⟩
      obtain ⟨A0, cx0, rfl, _, _⟩ := hO.shape
      have HSL := Lib.hid HS.out.lt
      replace HS := Lib.hid ((HS.out.alloc _).below hb1)
      replace HG := Lib.hid (HG.out.trans ((World.grownBy_alloc w3 _ _).trans (grown_below hb1 _)))
      have HO := Lib.hid (hO.weaken (B' := g + 1) (le_al HSL.out))
      clear hO hb1
      go_wp2_with fail
      refine (l01Next_c g code _ _ HS.out).mono ?_
      rintro e w5 ⟨r5, rfl, a5, b5, c5, S, G⟩
      replace HO := Lib.hid (HO.out.src G (Nat.lt_succ_self _))
      replace HG := Lib.hid (HG.out.trans G)
      replace HS := Lib.hid S
      clear S G a5 b5 c5
      by_cases h0 : r5 = 0
      · subst h0
        by_cases h1 : 0 < xs.length
        · go_wp2_with fail
          refine (l01Next_c g code _ _ HS.out).mono ?_
          rintro e w6 ⟨r6, rfl, a6, b6, c6, S, G⟩
          replace HO := Lib.hid (HO.out.src G (Nat.lt_succ_self _))
          replace HG := Lib.hid (HG.out.trans G)
          replace HS := Lib.hid S
          obtain ⟨k, rfl⟩ := Int.eq_ofNat_of_zero_le a6
          have hk : k < xs.length := by have := c6 (by omega); omega
          clear S G a6 b6 c6
          go_wp2_with fail
          refine (l01Next_c g code _ _ HS.out).mono ?_
          rintro e w7 ⟨r7, rfl, a7, b7, c7, S, G⟩
          replace HO := Lib.hid (HO.out.src G (Nat.lt_succ_self _))
          replace HG := Lib.hid (HG.out.trans G)
          replace HS := Lib.hid S
          clear S G a7 b7 c7
          obtain ⟨g0, rfl, p1, p2, p3, p4⟩ := HO.out.at_ k hk
          have HX := Lib.hid (HO.out.set k r7)
          go_wp2_with fail
          go_ret
          exact ⟨_, _, rfl, HX.out.1.weaken (by have := HL.out; omega), by simp; omega, below_set (below_src HB.out HG.out HL.out) (by have := HL.out; dsimp only; omega)⟩
        · go_wp2_with fail
          go_ret
          exact ⟨_, _, rfl, HO.out.weaken (by have := HL.out; omega), by (first | omega | simp), below_src HB.out HG.out HL.out⟩
      · replace h0 : (r5 == 0) = false := by simp [h0]
        by_cases h1 : r5 = 1
        · subst h1
          go_wp2_with fail
          refine (pick_new g code _ HS.out _ _ [0, 1, 2, 6, -1] _ rfl rfl (by simp)).mono ?_
          rintro e w6 ⟨r6, rfl, m6, S, G⟩
          replace HO := Lib.hid (HO.out.src G (Nat.lt_succ_self _))
          replace HG := Lib.hid (HG.out.trans G)
          replace HS := Lib.hid S
          clear S G m6
          go_wp2_with (at_builtin; refine Hold.of ?_)
          refine Hold.to ?_
          refine wpl_app_int rfl (.tmp 50) (.tmp 54) rfl (g + 1) _ _ r6 rfl (HO.out.alloc _) w6.heap.size 0 rfl (cell_alloc_at _ _ _ _ _ rfl) (by first | omega | simp) (by have := HS.out.lt; simp; omega) (fun v' w' h1 h2 h3 => ?_)
          have hb : Below w.heap.size w w' := below_grown (below_al (below_src HB.out HG.out HL.out)) h2 (HO.out.alloc _) (by have := HL.out; omega)
          have H8 := Lib.hid (And.intro h1 hb)
          clear h1 h2 h3 hb
          go_wp2_with fail
          go_ret
          exact ⟨_, _, rfl, H8.out.1.weaken (by have := HL.out; omega), by (first | (simp; done) | (simp; omega)), H8.out.2⟩
        · replace h1 : (r5 == 1) = false := by simp [h1]
          go_wp2_with fail
          go_ret
          exact ⟨_, _, rfl, HO.out.weaken (by have := HL.out; omega), by (first | omega | simp), below_src HB.out HG.out HL.out⟩
def eqL (xs ys : List Int) : Bool := decide (xs = ys)
set_option maxRecDepth 100000 in
set_option maxHeartbeats 1000000 in
theorem likeInts_c (xs ys : List Int) (A B : Option Addr) (cx cy : Nat) (w : World) (hx : Cells w A (ints xs)) (hy : Cells w B (ints ys)) (lx : xs.length ≤ 1000000000) (ly : ys.length ≤ 1000000000) :
    Calls Try.prog 8 #[.slice A xs.length cx, .slice B ys.length cy] w fun e w' => e = .returned (.bool (eqL xs ys)) ∧ Below w.heap.size w w' := by
  by_cases hl : xs.length = ys.length
  · have HL := Lib.hid hl
    have hl' : ((xs.length : Int) != (ys.length : Int)) = false := by simp; omega
    have hl2 : ys.length ≤ xs.length := by omega
    have hl3 : xs.length ≤ ys.length := by omega
    clear hl
    go_enter Try.func8, Try.ntmps8
    go_wp2
    go_loopw [5] (fun i wr => ∃ k : Nat, k ≤ xs.length ∧ i = .int .i64 k ∧ Hid (∀ j (h1 : j < xs.length) (h2 : j < ys.length), j < k → xs[j] = ys[j]) ∧ Below w.heap.size w wr) (fun i _ => xs.length - (intOf i).toNat)
    case atStart => exact ⟨0, by omega, rfl, fun j _ _ h => by omega, Below.refl _ _⟩
    case round =>
      obtain ⟨k, hk, rfl, Hn, hb⟩ := hrel
      have Hb := Lib.hid hb
      by_cases h1 : k < xs.length
      · have h2 : k < ys.length := by omega
        obtain ⟨b, off, rfl, hlt, c0⟩ := (hx.below hb).int k h1
        obtain ⟨b', off', rfl, hlt', d0⟩ := (hy.below hb).int k h2
        by_cases hE : xs[k] = ys[k]
        · have HE : Hid (∀ j (h1 : j < xs.length) (h2 : j < ys.length), j < k + 1 → xs[j] = ys[j]) := fun j h1 h2 hj => by
            by_cases e : j = k
            · subst e; exact hE
            · exact Hn.out j h1 h2 (by omega)
          have hE' : (xs[k] != ys[k]) = false := by simp [hE]
          have e0 := keepC c0
          have f0 := keepC d0
          clear hE hx hy hb c0 d0
          generalize xs[k] = s at *
          generalize ys[k] = t at *
          go_wp2_with fail
          refine wp_region_add (fun w' => Below (wr).heap.size (wr) w') (by kernel_rfl) (by kernel_rfl) ((Below.refl _ _).drew) ?_
          repeat (first
            | (refine add_skip rfl (fun K' hK' => ?_); go_simp; refine hK' _ ?_; clear hK' K')
            | (refine add_do (v := ?_) rfl (fun w1 hb => ?_) (fun K' hK' => ?_); rotate_left
               · go_simp
                 first
                 | (with_reducible exact rfl)
                 | (with_reducible exact ⟨rfl, hb⟩)
                 | exact rfl
                 | exact ⟨rfl, hb⟩
               go_simp; refine hK' _ ?_; clear hK' K'))
          refine add_nil ?_
          intro wa hba
          go_wp2
          go_roundw
          case rel => exact ⟨k + 1, by omega, by go_num, HE, by have h3 := Hb.out; (repeat (first | (with_reducible exact Below.refl _ _) | (with_reducible assumption) | (with_reducible refine below_al ?_) | (with_reducible refine below_dr ?_) | (with_reducible refine below_drN ?_) | (with_reducible refine below_set ?_ (by first | exact Nat.le_refl _ | (dsimp only; omega) | omega)) | (with_reducible refine below_tr (by with_reducible assumption) ?_)))⟩
          case measure => simp [intOf]; omega
        · have HE : Hid (eqL xs ys = false) := by
            show eqL xs ys = false
            simp only [eqL, decide_eq_false_iff_not]; intro e; exact hE (by simp [e])
          have hE' : (xs[k] != ys[k]) = true := by simp [hE]
          have e0 := keepC c0
          have f0 := keepC d0
          clear hE hx hy hb c0 d0
          generalize xs[k] = s at *
          generalize ys[k] = t at *
          go_wp2_with fail
          refine wp_region_add (fun w' => Below (wr).heap.size (wr) w') (by kernel_rfl) (by kernel_rfl) ((Below.refl _ _).drew) ?_
          repeat (first
            | (refine add_skip rfl (fun K' hK' => ?_); go_simp; refine hK' _ ?_; clear hK' K')
            | (refine add_do (v := ?_) rfl (fun w1 hb => ?_) (fun K' hK' => ?_); rotate_left
               · go_simp
                 first
                 | (with_reducible exact rfl)
                 | (with_reducible exact ⟨rfl, hb⟩)
                 | exact rfl
                 | exact ⟨rfl, hb⟩
               go_simp; refine hK' _ ?_; clear hK' K'))
          refine add_nil ?_
          intro wa hba
          go_wp2
          go_ret
          exact ⟨ret_bool HE.out.symm, by have h3 := Hb.out; (repeat (first | (with_reducible exact Below.refl _ _) | (with_reducible assumption) | (with_reducible refine below_al ?_) | (with_reducible refine below_dr ?_) | (with_reducible refine below_drN ?_) | (with_reducible refine below_set ?_ (by first | exact Nat.le_refl _ | (dsimp only; omega) | omega)) | (with_reducible refine below_tr (by with_reducible assumption) ?_)))⟩
      · have hE : Hid (eqL xs ys = true) := by
          show eqL xs ys = true
          simp only [eqL, decide_eq_true_eq]
          exact List.ext_getElem HL.out fun j h1 h2 => Hn.out j h1 h2 (by omega)
        clear hx hy
        go_wp2
        go_ret
        exact ⟨ret_bool hE.out.symm, hb⟩
  · have hR : Hid (eqL xs ys = false) := by
      show eqL xs ys = false
      simp only [eqL, decide_eq_false_iff_not]; intro e; exact hl (by rw [e])
    have hl' : ((xs.length : Int) != (ys.length : Int)) = true := by simp; omega
    clear hl
    go_enter Try.func8, Try.ntmps8
    go_wp2
    go_ret
    exact ⟨ret_bool hR.out.symm, Below.refl _ _⟩

end Go.Proofs.Yteaajhlpieomkaa
