/- Contracts and lemmas for the statements of this seat, written for this claim; each theorem states its own conditions. -/
import Derived.Test.YtkgnejhflnekaaaGreatNgY9
set_option linter.unusedVariables false
set_option linter.unusedSimpArgs false
namespace Go.Proofs.YtkgnejhflnekaaaGreat
open Go.RowKit
def With9 (w : World) (g : Nat) (code : List Int) (e : Ending) (w' : World) : Prop :=
  ∃ c ts A cx L P cp, ∃ i : Int, e = .returned (.tuple #[.agg #[.int .i64 c, .slice A ts.length cx], .slice P L.length cp, .int .i64 i]) ∧ OwnT w' (g + 1) (.slice A ts.length cx) ts ∧ ts.length ≤ 101 ∧ RowsN w' (g + 1) P L ∧ L.length ≤ 101 ∧ Short 4 L ∧ Src w' g code ∧ w.grownBy w' (some g)
set_option maxRecDepth 100000 in
set_option maxHeartbeats 4000000 in
theorem l09With_c (g : Nat) (code : List Int) (w : World) (h : Src w g code) :
    Calls Tryz.prog 90 #[.pointer (some ⟨g, 0, none⟩)] w (With9 w g code) := by
  have HL := Lib.hid h.lt
  have HS := Lib.hid h
  clear h
  go_enter Tryz.func90, Tryz.ntmps90
  go_wp2_with fail
  refine (l09Draw_c g code _ (HS.out.alloc _)).mono ?_
  rintro e w1 ⟨c, ts, A, cx, v, L, rfl, hO, hV, hK, hB, S, G⟩
  obtain ⟨P, cp, rfl, -⟩ := hV.rows
  rw [World.size_alloc] at hO hV
  have hts := hK.2.2.2
  have hLn : L.length ≤ 16 := by rw [hB.1]; exact hts
  have H4 : Hid (∀ r ∈ L, r.length = 4) := fun r hr => by
    obtain ⟨k, hk, rfl⟩ := List.getElem_of_mem hr
    exact (hB.2 k hk).1
  have HSz : Hid (w.heap.size + 1 ≤ w1.heap.size) := by have := G.size; rw [World.size_alloc] at this; exact this
  have HQ : Hid (D9 w (w1.alloc (.cells #[.int .i64 c, .slice A ts.length cx] 26)) g code c ts A cx w1.heap.size) :=
    ⟨((Blk.newA w _ _).kept1 G (by have := HL.out; intro e; injection e with e; omega)).alloc _, Blk.newA _ _ _, ((hO.lower (by omega)).alloc _), S.alloc _, (World.grownBy_alloc w _ _).trans (G.trans (World.grownBy_alloc _ _ _)), (by have := HSz.out; omega), HL.out, by rw [World.size_alloc]; have := HSz.out; omega⟩
  have HN : Hid (RowsN (w1.alloc (.cells #[.int .i64 c, .slice A ts.length cx] 26)) (w.heap.size + 1) P L) := ((hV.rowsN).below (below_al (Below.refl _ _))).lower (by omega)
  clear hO hV hK hB S G HS
  go_wp2_with fail
  refine (l01Near_c g code _ _ HQ.out.src (by omega) (by omega)).mono ?_
  rintro e w2 ⟨i, rfl, S, G⟩
  replace HQ := Lib.hid (HQ.out.grow S G)
  replace HN := Lib.hid (HN.out.grew G (by have := HL.out; omega))
  clear S G
  have a0 := HQ.out.box.cell 0 (by simp)
  have a1 := HQ.out.box.cell 1 (by simp)
  simp only [List.getElem_cons_zero, List.getElem_cons_succ] at a0 a1
  go_wp2_with fail
  refine (l01Bad_c g code c ts A cx (w.heap.size + 1) _ HQ.out.src HQ.out.own (by have := HL.out; omega) HQ.out.sz (by omega)).mono ?_
  rintro e w3 ⟨c3, t3, A3, cx3, rfl, hO3, hK3, S, G⟩
  replace HQ := Lib.hid (HQ.out.grow S G)
  replace HN := Lib.hid (HN.out.grew G (by have := HL.out; omega))
  have HO3 := Lib.hid hO3
  clear S G hO3 a0 a1
  go_wp2_with fail
  refine (l09Bad_c g code L P cp (w.heap.size + 1) _ HQ.out.src HN.out H4.out (by omega)).mono ?_
  rintro e w4 ⟨P4, L4, cp4, rfl, hN4, ⟨hl4, hS4⟩, S, G⟩
  have HN4 := Lib.hid (hN4.lower HQ.out.sz)
  replace HQ := Lib.hid (HQ.out.grow S G)
  replace HO3 := Lib.hid (HO3.out.grew G (by have := HL.out; omega))
  have HS4 := Lib.hid hS4
  clear S G hN4 hS4 HN
  have y0 := HQ.out.res.cell 0 (by simp)
  have y1 := HQ.out.res.cell 1 (by simp)
  have g0 := HQ.out.res.frozen 0
  have g1 := HQ.out.res.frozen 1
  simp only [List.getElem_cons_zero, List.getElem_cons_succ] at y0 y1
  go_wp2
  refine bodyPost_ret (v := .tuple #[.agg #[.int .i64 c3, .slice A3 t3.length cx3], .slice P4 L4.length cp4, .int .i64 i]) (by
    have x0 := ((HQ.out.res.set 0 (.int .i64 c3)).set 1 (.slice A3 t3.length cx3)).cell 0 (by simp)
    have x1 := ((HQ.out.res.set 0 (.int .i64 c3)).set 1 (.slice A3 t3.length cx3)).cell 1 (by simp)
    simp only [List.set_cons_zero, List.set_cons_succ, List.getElem_cons_zero, List.getElem_cons_succ] at x0 x1
    simp [results, Tryz.results90, go_sem, x0, x1]) rfl ?_
  have hg0 := HL.out
  exact ⟨c3, t3, A3, cx3, L4, P4, cp4, i, rfl, ((HO3.out.other w.heap.size 0 (by omega) _).other w.heap.size 1 (by omega) _).lower (by omega), hK3, ((HN4.out.store (by omega)).store (by omega)).lower (by omega), hl4, HS4.out, (HQ.out.src.store (by dsimp only; omega)).store (by dsimp only; omega), grown_store (grown_store HQ.out.sub (Nat.le_refl _)) (Nat.le_refl _)⟩

end Go.Proofs.YtkgnejhflnekaaaGreat
