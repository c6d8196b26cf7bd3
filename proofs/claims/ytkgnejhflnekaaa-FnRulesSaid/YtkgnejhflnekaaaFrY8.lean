/- Contracts and lemmas for the statements of this seat, written for this claim; each theorem states its own conditions. -/
import Derived.Test.YtkgnejhflnekaaaFrY7
import Derived.Test.YtkgnejhflnekaaaFrMk
import Derived.Test.YtkgnejhflnekaaaFrGr
set_option linter.unusedVariables false
set_option linter.unusedSimpArgs false
namespace Go.Proofs.Ytkgnejhflnekaaa
open Go.RowKit
set_option maxRecDepth 100000 in
set_option maxHeartbeats 1000000 in
theorem l01Near_c (g : Nat) (code : List Int) (m : Int) (w : World) (h : Src w g code) (hm : 0 ≤ m) (hm2 : m ≤ 1000) :
    Calls Try.prog 46 #[.pointer (some ⟨g, 0, none⟩), .int .i64 m] w fun e w' => ∃ r : Int, e = .returned (.int .i64 r) ∧ Src w' g code ∧ w.grownBy w' (some g) := by
  have HS := Lib.hid h
  have HG := Lib.hid (World.grownBy.refl w (some g))
  clear h
  go_enter Try.func46, Try.ntmps46
  go_wp2_with fail
  refine (l01Next_c g code _ _ HS.out).mono ?_
  rintro e w1 ⟨r1, rfl, a, b, c, S, G⟩
  have M1 := Lib.hid (And.intro a (And.intro b c))
  replace HG := Lib.hid (HG.out.trans G)
  replace HS := Lib.hid S
  clear S G a b c
  by_cases h0 : r1 = 0
  · subst h0
    go_wp2_with fail
    refine (pick_new g code _ HS.out _ _ [-1, m + 1, 1099511627776, -4611686018427387904] _ rfl rfl (by simp)).mono ?_
    rintro e w2 ⟨r2, rfl, m2, S, G⟩
    replace HG := Lib.hid (HG.out.trans G)
    replace HS := Lib.hid S
    clear S G m2
    go_wp2_with fail
    go_ret
    exact ⟨_, rfl, HS.out, HG.out⟩
  · replace h0 : (r1 == 0) = false := by simp [h0]
    go_wp2_with fail
    refine (l01Next_c g code _ _ HS.out).mono ?_
    rintro e w2 ⟨r2, rfl, a, b, c, S, G⟩
    have M2 := Lib.hid (And.intro a (And.intro b c))
    replace HG := Lib.hid (HG.out.trans G)
    replace HS := Lib.hid S
    clear S G a b c
    go_wp2_with fail
    go_ret
    exact ⟨_, rfl, HS.out, HG.out⟩
/-- a slice of slices of numbers none of whose blocks lies below N, each row with room enough -/
def RowsN (w : World) (N : Nat) (A : Option Addr) (L : List (List Int)) : Prop :=
  ∀ k (h : k < L.length), ∃ b off A' cx, A = some ⟨b, off, none⟩ ∧ N ≤ b ∧ b < w.heap.size ∧ w.cell? ⟨b, off + k, none⟩ = some (.slice A' L[k].length cx) ∧ L[k].length ≤ cx ∧ Cells w A' (ints L[k]) ∧ ∀ b1 o1, A' = some ⟨b1, o1, none⟩ → N ≤ b1
theorem RowsN.rows {w : World} {N : Nat} {A : Option Addr} {L : List (List Int)} (h : RowsN w N A L) : RowsC w A L := fun k hk => by
  obtain ⟨b, off, A', cx, e, h1, h2, h3, h4, h5, h6⟩ := h k hk
  exact ⟨b, off, A', cx, e, h2, h3, h5⟩
theorem RowsN.caps {w : World} {N : Nat} {A : Option Addr} {L : List (List Int)} (h : RowsN w N A L) : CapsC w A L := fun k hk b off A' cx e hc => by
  obtain ⟨b', off', A'', cx', e', h1, h2, h3, h4, h5, h6⟩ := h k hk
  rw [e] at e'
  injection e' with e'
  injection e' with e1 e2
  subst e1 e2
  rw [hc] at h3
  injection h3 with h3
  injection h3 with _ _ h3
  omega
theorem RowsN.grew {w w1 : World} {N g : Nat} {A : Option Addr} {L : List (List Int)} (h : RowsN w N A L) (hg : w.grownBy w1 (some g)) (hlt : g < N) : RowsN w1 N A L := fun k hk => by
  obtain ⟨b, off, A', cx, e, h1, h2, h3, h4, h5, h6⟩ := h k hk
  exact ⟨b, off, A', cx, e, h1, Nat.lt_of_lt_of_le h2 hg.size, hg.cell h3 (fun e => by injection e with e; dsimp only at e; omega), h4, h5.grown hg (fun b1 o1 e => by have := h6 b1 o1 e; omega), h6⟩
theorem RowsN.below {w w1 : World} {N : Nat} {A : Option Addr} {L : List (List Int)} (h : RowsN w N A L) (hb : Below w.heap.size w w1) : RowsN w1 N A L := fun k hk => by
  obtain ⟨b, off, A', cx, e, h1, h2, h3, h4, h5, h6⟩ := h k hk
  exact ⟨b, off, A', cx, e, h1, Nat.lt_of_lt_of_le h2 hb.size, (hb.cell (p := ⟨b, _, none⟩) h2).trans h3, h4, h5.below hb, h6⟩
theorem RowsN.store {w : World} {N b o : Nat} {v : Value} {A : Option Addr} {L : List (List Int)} (h : RowsN w N A L) (hb : b < N) : RowsN (w.setCell ⟨b, o, none⟩ v) N A L := fun k hk => by
  obtain ⟨b1, off, A', cx, e, h1, h2, h3, h4, h5, h6⟩ := h k hk
  refine ⟨b1, off, A', cx, e, h1, by simpa [World.setCell] using h2, by rw [cell_set_ne _ _ _ _ _ (by dsimp only; omega)]; exact h3, h4, fun j hj => ?_, h6⟩
  obtain ⟨b2, o2, e2, hc⟩ := h5 j hj
  exact ⟨b2, o2, e2, by rw [cell_set_ne _ _ _ _ _ (by have := h6 b2 o2 e2; dsimp only; omega)]; exact hc⟩
theorem RowsN.lower {w : World} {N N' : Nat} {A : Option Addr} {L : List (List Int)} (h : RowsN w N A L) (hN : N' ≤ N) : RowsN w N' A L := fun k hk => by
  obtain ⟨b1, off, A', cx, e, h1, h2, h3, h4, h5, h6⟩ := h k hk
  exact ⟨b1, off, A', cx, e, by omega, h2, h3, h4, h5, fun b o e => by have := h6 b o e; omega⟩
theorem OwnII.grew {w w1 : World} {B g : Nat} {v : Value} {L : List (List Int)} (h : OwnII w B v L) (hg : w.grownBy w1 (some g)) (hlt : g < B) : OwnII w1 B v L := by
  obtain ⟨vs, h1, h2, h3, h4⟩ := h
  refine ⟨vs, World.ownsRow.kept h1 hg ?_, fun i hi hi' => (h2 i hi hi').grew hg hlt, h3, h4⟩
  cases e : v.ownBlock with
  | none => exact .inl rfl
  | some k => exact .inr (fun e2 => by injection e2 with e2; have := (World.ownsRow.lt h1 k e).1; omega)
theorem OwnII.rowsN {w : World} {B n cx : Nat} {A : Option Addr} {L : List (List Int)} (h : OwnII w B (.slice A n cx) L) : RowsN w B A L := fun k hk => by
  have hc := h.caps
  obtain ⟨vs, h1, h2, h3, h4⟩ := h
  have hvl : vs.length = L.length := by have := h1.1; omega
  obtain ⟨A', c', e, hC, _⟩ := (h2 k (by omega) hk).shape
  obtain ⟨gv, rfl, hgv1, hgv2⟩ : ∃ gv, A = some ⟨gv, 0, none⟩ ∧ B ≤ gv ∧ gv < w.heap.size := by
    rcases h1.2 with ⟨_, e0⟩ | ⟨gv, cap, cur, e1, e2, e3, _⟩
    · omega
    · injection e1 with a1 _ _
      exact ⟨gv, a1, e2, (Array.getElem?_eq_some_iff.1 e3).1⟩
  have hn : n = L.length := by
    rcases h1.2 with ⟨e0, _⟩ | ⟨gv', cap, cur, e1, _⟩
    · cases e0
    · injection e1
  subst hn
  have hcell : w.cell? ⟨gv, 0 + k, none⟩ = some (.slice A' L[k].length c') := by rw [Nat.zero_add, World.ownsRow.cellAt h1 k (by omega), List.getElem?_eq_getElem (by omega), e]
  refine ⟨gv, 0, A', c', rfl, by omega, hgv2, hcell, hc k hk gv 0 A' c' rfl hcell, hC, fun b1 o1 ea => ?_⟩
  have := World.ownsRow.lt (h2 k (by omega) hk)
  rw [e, ea] at this
  obtain ⟨_, ⟨ev, _⟩ | ⟨gq, cap, cur, ev, hq, _⟩⟩ := h2 k (by omega) hk
  · rw [e, ea] at ev; cases ev
  · rw [e, ea] at ev
    injection ev with ev
    injection ev with ev
    injection ev with ev
    omega
/-- a row cut short in its place -/
theorem OwnII.cut {w : World} {B n cx : Nat} {A : Option Addr} {L : List (List Int)} (h : OwnII w B (.slice A n cx) L) (h0 : 0 < L.length) (m : Nat) (hm : m ≤ L[0].length) (h1' : 0 < L[0].length) :
    ∃ gv g0 c0, A = some ⟨gv, 0, none⟩ ∧ B ≤ gv ∧ gv < w.heap.size ∧ w.cell? ⟨gv, 0, none⟩ = some (.slice (some ⟨g0, 0, none⟩) L[0].length c0) ∧ w.frozen? ⟨gv, 0, none⟩ = false ∧ L[0].length ≤ c0 ∧
      RowsN (w.setCell ⟨gv, 0, none⟩ (.slice (some ⟨g0, 0, none⟩) m c0)) B A (L.set 0 (L[0].take m)) := by
  have hN := h.rowsN
  have hI := h
  obtain ⟨b, off, A0, c0, rfl, q1, q2, q3, q4, q5, q6⟩ := hN 0 h0
  obtain ⟨vs, h1, h2, h3, h4⟩ := hI
  have hvl : vs.length = L.length := by have := h1.1; omega
  obtain ⟨gv, e1, hgv1, hgv2⟩ : ∃ gv, (some ⟨b, off, none⟩ : Option Addr) = some ⟨gv, 0, none⟩ ∧ B ≤ gv ∧ gv < w.heap.size := by
    rcases h1.2 with ⟨_, e0⟩ | ⟨gv, cap, cur, e1, e2, e3, _⟩
    · omega
    · injection e1 with a1 _ _
      exact ⟨gv, a1, e2, (Array.getElem?_eq_some_iff.1 e3).1⟩
  injection e1 with e1
  injection e1 with e1 e2
  subst e1 e2
  have hn : n = L.length := by
    rcases h1.2 with ⟨e0, _⟩ | ⟨gv', cap, cur, e1, _⟩
    · cases e0
    · injection e1
  subst hn
  have hv0 : vs[0]'(by omega) = .slice A0 L[0].length c0 := by
    have := World.ownsRow.cellAt h1 0 (by omega)
    rw [List.getElem?_eq_getElem (by omega)] at this
    rw [Nat.add_zero] at q3
    rw [q3] at this
    injection this with this
    exact this.symm
  obtain ⟨g0, rfl⟩ : ∃ g0, A0 = some ⟨g0, 0, none⟩ := by
    obtain ⟨_, ⟨ev, ez⟩ | ⟨gq, cap, cur, ev, _⟩⟩ := h2 0 (by omega) h0
    · omega
    · rw [hv0] at ev
      injection ev with ev
      exact ⟨gq, ev⟩
  have hz : w.frozen? ⟨b, 0, none⟩ = false := World.ownsRow.frozenAt h1 0
  have hrow : ∀ i (hi : i < L.length) b1 o1, (∃ n' c', vs[i]'(by omega) = .slice (some ⟨b1, o1, none⟩) n' c') → b1 ≠ b := fun i hi b1 o1 ⟨n', c', e⟩ eb => by
    rcases h4 i (by omega) with e4 | e4
    · rw [e] at e4
      obtain ⟨_, ⟨ev, _⟩ | ⟨gq, cap, cur, ev, _⟩⟩ := h2 i (by omega) hi
      · rw [e] at ev; cases ev
      · rw [e] at ev
        injection ev with ev
        injection ev with ev
        injection ev with ev ev2
        subst ev ev2
        cases e4
    · obtain ⟨_, ⟨ev, _⟩ | ⟨gq, cap, cur, ev, _⟩⟩ := h2 i (by omega) hi
      · rw [e] at ev; cases ev
      · rw [e] at ev
        injection ev with ev
        injection ev with ev
        injection ev with ev ev2
        subst ev ev2
        rw [e] at e4
        exact e4 (by subst eb; rfl)
  refine ⟨b, g0, c0, rfl, hgv1, hgv2, q3, hz, q4, fun k hk => ?_⟩
  rw [List.length_set] at hk
  by_cases ek : k = 0
  · subst ek
    have hgb : g0 ≠ b := hrow 0 h0 g0 0 ⟨_, _, hv0⟩
    refine ⟨b, 0, some ⟨g0, 0, none⟩, c0, rfl, q1, by simpa [World.setCell] using q2, ?_, ?_, ?_, q6⟩
    · rw [List.getElem_set_self, List.length_take, Nat.min_eq_left hm, Nat.add_zero]
      exact World.cell?_setCell_same w _ _ q3
    · rw [List.getElem_set_self, List.length_take]; omega
    · rw [List.getElem_set_self]
      intro j hj
      rw [ints_length, List.length_take] at hj
      obtain ⟨b', o', e', hc'⟩ := q5 j (by rw [ints_length]; omega)
      injection e' with e'
      injection e' with e1 e2
      subst e1 e2
      refine ⟨g0, 0, rfl, ?_⟩
      rw [cell_set_ne _ _ _ _ _ hgb, hc']
      simp [ints]
  · obtain ⟨b', off', A', c', e', p1, p2, p3, p4, p5, p6⟩ := hN k hk
    injection e' with e'
    injection e' with e1 e2
    subst e1 e2
    have hvk : vs[k]'(by omega) = .slice A' L[k].length c' := by
      have := World.ownsRow.cellAt h1 k (by omega)
      rw [List.getElem?_eq_getElem (by omega)] at this
      rw [Nat.zero_add] at p3
      rw [p3] at this
      injection this with this
      exact this.symm
    refine ⟨b, 0, A', c', rfl, p1, by simpa [World.setCell] using p2, ?_, ?_, ?_, p6⟩
    · rw [List.getElem_set_ne (by omega)]
      exact (World.cell?_setCell_other w _ _ _ (by intro e; injection e with _ e; omega)).trans p3
    · rw [List.getElem_set_ne (by omega)]; exact p4
    · rw [List.getElem_set_ne (by omega)]
      intro j hj
      obtain ⟨b2, o2, e2, hc2⟩ := p5 j hj
      refine ⟨b2, o2, e2, ?_⟩
      rw [cell_set_ne _ _ _ _ _ (by subst e2; exact hrow k hk b2 o2 ⟨_, _, hvk⟩)]
      exact hc2
def RowsDrawn (w : World) (g : Nat) (code : List Int) (K : List (List Int) → Prop) (e : Ending) (w' : World) : Prop :=
  ∃ A L cx, e = .returned (.slice A L.length cx) ∧ RowsN w' w.heap.size A L ∧ K L ∧ Src w' g code ∧ w.grownBy w' (some g)
set_option maxRecDepth 100000 in
set_option maxHeartbeats 4000000 in
theorem l09Bad_c (g : Nat) (code : List Int) (L : List (List Int)) (A : Option Addr) (cx N : Nat) (w : World) (h : Src w g code) (hN : RowsN w N A L) (h4 : ∀ r ∈ L, r.length = 4) (hl : L.length ≤ 100) :
    Calls Try.prog 41 #[.pointer (some ⟨g, 0, none⟩), .slice A L.length cx] w (RowsDrawn w g code fun L' => L'.length ≤ 101 ∧ Short 4 L') := by
  have HL := Lib.hid h.lt
  have HS := Lib.hid h
  have HN := Lib.hid hN
  have H4 := Lib.hid h4
  clear h hN h4
  go_enter Try.func41, Try.ntmps41
  go_wp2_with fail
  go_loopw [5, 6] (fun v i wr => ∃ k : Nat, k ≤ L.length ∧ i = .int .i64 (k : Nat) ∧ Hid (OwnII wr w.heap.size v (L.take k)) ∧ Hid (Below w.heap.size w wr)) (fun _ i _ => L.length - (intOf i).toNat)
  case atStart => exact ⟨0, by omega, rfl, OwnII.empty rfl (Nat.le_refl _), below_al (Below.refl _ _)⟩
  case round =>
    obtain ⟨k, hk, rfl, HO, HB⟩ := hrel
    obtain ⟨T, hT⟩ : ∃ T, T = L.take k := ⟨_, rfl⟩
    rw [← hT] at HO
    have HT := Lib.hid hT
    clear hT
    obtain ⟨Av, cv, rfl, -⟩ := HO.out.rows
    by_cases h1 : k < L.length
    · obtain ⟨b, off, A', c', rfl, -, hlt, c0, -, hC, -⟩ := (HN.out.below HB.out) k h1
      have HK := Lib.hid (show L.take (k + 1) = L.take k ++ [L[k]] by rw [List.take_succ_eq_append_getElem h1])
      have h4k := H4.out _ (List.getElem_mem h1)
      have HTl : Hid (T.length ≤ 100) := by show _ ≤ _; rw [HT.out, List.length_take]; omega
      generalize L[k] = row at *
      obtain ⟨b1, o1, rfl, -, -⟩ := hC.int 0 (by omega)
      have HOwn := Lib.hid (l01Own_c row b1 o1 c' wr (fun j hj => by
        obtain ⟨_, _, e, _, hc⟩ := hC.int j hj
        injection e with e
        injection e with e e2
        subst e e2
        exact hc) (by omega))
      have HR4 := Lib.hid h4k
      clear hC h4k
      go_wp2_with fail
      refine HOwn.out.mono ?_
      rintro e w1 ⟨u, rfl, hu, hb⟩
      obtain ⟨Au, cu, rfl, -⟩ := hu.shape
      have Hu := Lib.hid hu
      have Hb := Lib.hid hb
      clear hu hb c0
      go_wp2_with (at_builtin; refine Hold.of ?_)
      refine Hold.to ?_
      refine wpl_app_row (W0 := wr) rfl (.tmp 15) (.tmp 21) rfl w.heap.size _ T _ row rfl HO.out (below_al Hb.out) (Hu.out.alloc _) w1.heap.size 0 rfl (cell_alloc_at _ _ _ _ _ rfl) (by have := HTl.out; omega) HB.out.size (fun v' w' a1 a2 a3 => ?_)
      have B2 := Lib.hid (Below.grown (HB.out.trans ((below_al Hb.out).mono HB.out.size)) a2 (by have := HB.out.size; have := Hb.out.size; simp; omega) a3)
      rw [HT.out, ← HK.out] at a1
      have O1 := Lib.hid a1
      clear a1 a2 a3
      go_wp2_with fail
      go_roundw
      case rel => exact ⟨k + 1, by omega, by go_num, O1, B2⟩
      case measure => simp [intOf]; omega
    · obtain rfl : k = L.length := by omega
      have HTL : Hid (T = L) := by show _ = _; rw [HT.out, List.take_length]
      have HSr := Lib.hid (HS.out.below HB.out)
      have HGr := Lib.hid (grown_below HB.out (some g))
      obtain rfl : T = L := HTL.out
      have HSh : Hid (Short 4 T) := fun j hj => Nat.le_of_eq (H4.out _ (List.getElem_mem hj))
      clear HB HN HS HT HTL
      go_wp2_with fail
      refine (l01Next_c g code _ _ HSr.out).mono ?_
      rintro e w1 ⟨r, rfl, r0, _, r1, S, G⟩
      replace HO := Lib.hid (HO.out.grew G HL.out)
      replace HGr := Lib.hid (HGr.out.trans G)
      replace HSr := Lib.hid S
      clear S G r0 r1
      by_cases h0 : r = 0
      · subst h0
        go_wp2_with (at_builtin; refine Hold.of ?_)
        refine Hold.to ?_
        refine wpl_app_row (W0 := w1) rfl (.tmp 27) (.tmp 29) rfl w.heap.size _ T (.slice (some ⟨w1.heap.size, 0, none⟩) 4 4) [0, 0, 0, 0] rfl HO.out (below_al (below_al (Below.refl _ _))) ((OwnI.made w1 _ #[.int .i64 0, .int .i64 0, .int .i64 0, .int .i64 0] [0, 0, 0, 0] rfl (Nat.le_refl _) (by simp)).alloc _) (w1.heap.size + 1) 0 rfl (cell_al _ _ _ _ _ _ (by simp) rfl) (by omega) (by have := HGr.out.size; exact this) (fun v' w' a1 a2 a3 => ?_)
        have HRN : Hid (∃ A' c', v' = .slice A' (T ++ [[0, 0, 0, 0]]).length c' ∧ RowsN w' w.heap.size A' (T ++ [[0, 0, 0, 0]])) := by
          obtain ⟨A', c', e, -⟩ := a1.rows
          exact ⟨A', c', e, by rw [e] at a1; exact a1.rowsN⟩
        have HS3 := Lib.hid (((HSr.out.alloc (.cells #[.int .i64 0, .int .i64 0, .int .i64 0, .int .i64 0] 2)).alloc (.cells #[.slice (some ⟨w1.heap.size, 0, none⟩) 4 4] 40)).app a2 (fun k hk => by have := a3 k hk; have := HL.out; omega))
        have HG3 := Lib.hid (grown_app (grown_al (grown_al HGr.out (o := .cells #[.int .i64 0, .int .i64 0, .int .i64 0, .int .i64 0] 2)) (o := .cells #[.slice (some ⟨w1.heap.size, 0, none⟩) 4 4] 40)) a2 a3)
        clear a1 a2 a3
        go_wp2_with fail
        go_ret
        obtain ⟨A', c', rfl, hR⟩ := HRN.out
        refine ⟨A', T ++ [[0, 0, 0, 0]], c', rfl, hR, ⟨by simp; omega, fun j hj => ?_⟩, HS3.out, HG3.out⟩
        by_cases e : j < T.length
        · rw [List.getElem_append_left e]; exact HSh.out j e
        · rw [List.getElem_append_right (by omega)]; simp
      · replace h0 : (r == 0) = false := by simp [h0]
        by_cases h1 : r = 1
        · subst h1
          by_cases hp : 0 < T.length
          · have h40 := H4.out _ (List.getElem_mem hp)
            obtain ⟨gv, g0', cr, rfl, p1, p2, p3, -, p4, -⟩ := HO.out.at2 0 hp 0 (by omega)
            rw [h40] at p3
            have hp' : (0 : Int) < (T.length : Int) := by omega
            have P3 := Lib.hid p3
            have P1 := Lib.hid p1
            have H40 := Lib.hid h40
            clear h40 p1 p4
            go_wp2_with fail
            refine (l01Next_c g code _ _ HSr.out).mono ?_
            rintro e w2 ⟨r2, rfl, r20, _, r21, S, G⟩
            obtain ⟨j, rfl⟩ := Int.eq_ofNat_of_zero_le r20
            have hj : j < 4 := by have := r21 (by omega); omega
            replace P3 := Lib.hid (G.cell P3.out (by have := P1.out; have := HL.out; intro e; injection e with e; dsimp only at e; omega))
            replace HO := Lib.hid (HO.out.grew G HL.out)
            replace HGr := Lib.hid (HGr.out.trans G)
            replace HSr := Lib.hid S
            clear S G r20 r21 p3
            go_wp2_with fail
            refine (pick_new g code _ HSr.out _ _ [-1, (T.length : Int)] _ rfl rfl (by simp)).mono ?_
            rintro e w3 ⟨r3, rfl, m3, S, G⟩
            replace P3 := Lib.hid (G.cell P3.out (by have := P1.out; have := HL.out; intro e; injection e with e; dsimp only at e; omega))
            replace HO := Lib.hid (HO.out.grew G HL.out)
            replace HGr := Lib.hid (HGr.out.trans G)
            replace HSr := Lib.hid S
            clear S G m3
            obtain ⟨gv', g0'', cr', e1, q1, q2, q3, q4, q5, q6, q7, q8⟩ := HO.out.at2 0 hp j (by rw [H40.out]; exact hj)
            injection e1 with e1
            injection e1 with e1
            subst e1
            have e2 := P3.out
            rw [q3] at e2
            injection e2 with e2
            injection e2 with e2 _ e3
            injection e2 with e2
            injection e2 with e2
            subst e2
            have HO4 := Lib.hid (q8 r3)
            have Q4 := Lib.hid q4
            clear q3 q1 q2 q4 q8
            generalize T[0][j] = z at q6
            go_wp2_with fail
            go_ret
            have hO4 := HO4.out
            have hlen : (T.set 0 (T[0].set j r3)).length = T.length := by simp
            refine ⟨_, T.set 0 (T[0].set j r3), cv, by rw [hlen]; rfl, hO4.rowsN, ⟨by rw [hlen]; omega, fun k hk2 => ?_⟩, HSr.out.store (by have := Q4.out; have := HL.out; dsimp only; omega), grown_store HGr.out Q4.out⟩
            by_cases e : k = 0
            · subst e; rw [List.getElem_set_self, List.length_set]; exact HSh.out 0 hp
            · rw [List.getElem_set_ne (by omega)]; exact HSh.out k (by simpa using hk2)
          · have hp' : ¬ ((0 : Int) < (T.length : Int)) := by omega
            have HRN := Lib.hid (HO.out.rowsN)
            go_wp2_with fail
            go_ret
            exact ⟨Av, T, cv, rfl, HRN.out, ⟨by omega, HSh.out⟩, HSr.out, HGr.out⟩
        · replace h1 : (r == 1) = false := by simp [h1]
          by_cases h2 : r = 2
          · subst h2
            by_cases hp : 0 < T.length
            · have h40 := H4.out _ (List.getElem_mem hp)
              obtain ⟨gv, g0', c0', rfl, b1, b2, b3, b4, b5, b6⟩ := HO.out.cut hp 3 (by omega) (by omega)
              have H6 := Lib.hid b6
              have hp' : (0 : Int) < (T.length : Int) := by omega
              have hc3 : 3 ≤ c0' := by omega
              rw [h40] at b3
              have Hb1 := Lib.hid b1
              have Hlen : Hid ((T.set 0 (T[0].take 3)).length = T.length) := by show _ = _; simp
              have HSh2 : Hid (Short 4 (T.set 0 (T[0].take 3))) := fun k hk2 => by
                by_cases e : k = 0
                · subst e; rw [List.getElem_set_self, List.length_take]; omega
                · rw [List.getElem_set_ne (by omega)]; exact HSh.out k (by simpa using hk2)
              clear b6 h40 b5 b1
              go_wp2_with fail
              go_ret
              exact ⟨_, T.set 0 (T[0].take 3), cv, by rw [Hlen.out]; rfl, H6.out, ⟨by rw [Hlen.out]; omega, HSh2.out⟩, HSr.out.store (by have := Hb1.out; have := HL.out; dsimp only; omega), grown_store HGr.out Hb1.out⟩
            · have hp' : ¬ ((0 : Int) < (T.length : Int)) := by omega
              have HRN := Lib.hid (HO.out.rowsN)
              go_wp2_with fail
              go_ret
              exact ⟨Av, T, cv, rfl, HRN.out, ⟨by omega, HSh.out⟩, HSr.out, HGr.out⟩
          · replace h2 : (r == 2) = false := by simp [h2]
            have HRN := Lib.hid (HO.out.rowsN)
            go_wp2_with fail
            go_ret
            exact ⟨Av, T, cv, rfl, HRN.out, ⟨by omega, HSh.out⟩, HSr.out, HGr.out⟩

end Go.Proofs.Ytkgnejhflnekaaa
