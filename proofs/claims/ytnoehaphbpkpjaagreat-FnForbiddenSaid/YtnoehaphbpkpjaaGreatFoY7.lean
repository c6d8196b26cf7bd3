/- Contracts and lemmas for the statements of this seat, written for this claim; each theorem states its own conditions. -/
import Derived.Laws.OwnMore
import Derived.Deep.Cut
import Derived.Test.YtnoehaphbpkpjaaGreatFoY5
import Derived.Test.YtnoehaphbpkpjaaGreatFoSe
import Derived.Test.YtnoehaphbpkpjaaGreatFoBy
set_option linter.unusedVariables false
set_option linter.unusedSimpArgs false
namespace Go.Proofs.YtnoehaphbpkpjaaGreat
open Go.RowKit
theorem app_tilesV {o : Oper} {a : Act} {W : World} {K : Act → World → Prop} {Q : Exit → Act → World → Prop} (s x : Operand)
    (ho : o.op = .call { callee := .builtin .append, args := #[s, x], argTypes := #[28, 28] }) (B B' : Nat) (v u : Value) (ts us : List T4) (hs : a.eval s = v) (hown : OwnT W B v ts)
    (hx : a.eval x = u) (hu : OwnT W B' u us) (hl : ts.length + us.length ≤ 1000000000) (hB : B ≤ W.heap.size)
    (h : ∀ v' w', OwnT w' B v' (ts ++ us) → W.grownBy w' v.ownBlock → K (a.put o.dst v') w') : o.wp Tryz.prog a W K Q := by
  have hu0 := hu
  obtain ⟨h1, ⟨rfl, h2⟩ | ⟨g, cap, cur, rfl, _⟩⟩ := hu
  · obtain ⟨i, hi, hzz⟩ := Option.map_eq_some_iff.1 infoTile2
    simp only [Prod.mk.injEq] at hzz
    have hr := run_append_owned_none (P := Tryz.prog) (w := W) B 28 o.type 30 i 4 Tryz.underlying28 hi v ts.length (tcells ts) hown
    unfold Oper.wp execOp
    simp only [ho, resolve, invoke, builtin, Sem.run_bind, Sem.run_pure, Result.andThen_ok, List.map_toArray, List.map_cons, List.map_nil, hs, hx, hr]
    refine h v W ?_ (World.grownBy.refl _ _)
    have : us = [] := List.eq_nil_of_length_eq_zero h2
    rw [this, List.append_nil]; exact hown
  · exact app_tiles s x ho B v ts us hs hown ⟨g, 0, none⟩ cap hx (fun j u hj => hu0.all j u hj) hl hB fun v' w' a1 a2 _ => h v' w' a1 a2
theorem wpl_app_tilesV {ops : Array Oper} {rest : List Oper} {o : Oper} {a : Act} {W : World} {Q : Exit → Act → World → Prop} (hgd : o.guard = none) (s x : Operand)
    (ho : o.op = .call { callee := .builtin .append, args := #[s, x], argTypes := #[28, 28] }) (B B' : Nat) (v u : Value) (ts us : List T4) (hs : a.eval s = v) (hown : OwnT W B v ts)
    (hx : a.eval x = u) (hu : OwnT W B' u us) (hl : ts.length + us.length ≤ 1000000000) (hB : B ≤ W.heap.size)
    (h : ∀ v' w', OwnT w' B v' (ts ++ us) → W.grownBy w' v.ownBlock → wpList Tryz.prog ops Q rest (a.put o.dst v') w') : wpList Tryz.prog ops Q (o :: rest) a W :=
  wpList_plain hgd fun _ hK => app_tilesV s x ho B B' v u ts us hs hown hx hu hl hB fun v' w' h1 h2 => hK _ _ (h v' w' h1 h2)
/-- where l01Bad stands: its boxes, the list that it made, the set that it was handed -/
structure BadSt (w wr : World) (g : Nat) (code : List Int) (c : Int) (ts : List T4) (A : Option Addr) (cx B : Nat) (v : Value) (us : List T4) : Prop where
  arg : Blk wr w.heap.size [.int .i64 c, .slice A ts.length cx] 32
  res : Blk wr (w.heap.size + 1) [.int .i64 0, .slice none 0 0] 32
  own : OwnT wr (w.heap.size + 2) v us
  old : OwnT wr B (.slice A ts.length cx) ts
  src : Src wr g code
  sub : w.grownBy wr (some g)
  hs : w.heap.size + 2 ≤ wr.heap.size
  hg : g < w.heap.size
  ap : ∀ k, (Value.slice A ts.length cx).ownBlock = some k → k < w.heap.size
theorem BadSt.grow {w wr W : World} {g : Nat} {code : List Int} {c : Int} {ts us : List T4} {A : Option Addr} {cx B : Nat} {v : Value} (h : BadSt w wr g code c ts A cx B v us) (hB : g < B) (hS : Src W g code) (hG : wr.grownBy W (some g)) : BadSt w W g code c ts A cx B v us :=
  ⟨h.arg.kept1 hG (by have := h.hg; intro e; injection e with e; omega), h.res.kept1 hG (by have := h.hg; intro e; injection e with e; omega), h.own.grew hG (by have := h.hg; omega), h.old.grew hG hB, hS, h.sub.trans hG, Nat.le_trans h.hs hG.size, h.hg, h.ap⟩
theorem BadSt.below {w wr W : World} {g : Nat} {code : List Int} {c : Int} {ts us : List T4} {A : Option Addr} {cx B : Nat} {v : Value} (h : BadSt w wr g code c ts A cx B v us) (hb : Below wr.heap.size wr W) : BadSt w W g code c ts A cx B v us :=
  ⟨h.arg.under hb, h.res.under hb, h.own.below hb, h.old.below hb, h.src.below hb, h.sub.trans (grown_below hb _), Nat.le_trans h.hs hb.size, h.hg, h.ap⟩
theorem BadSt.app {w wr W w' : World} {g : Nat} {code : List Int} {c : Int} {ts us us' : List T4} {A : Option Addr} {cx B : Nat} {v v' : Value} (h : BadSt w wr g code c ts A cx B v us) (hb : Below wr.heap.size wr W) (hg : W.grownBy w' v.ownBlock) (ho : OwnT w' (w.heap.size + 2) v' us') : BadSt w w' g code c ts A cx B v' us' := by
  have h2 := h.below hb
  have hr := World.ownsRow.lt h2.own
  refine ⟨h2.arg.kept1 hg (own_ne h2.own h2.arg (by decide)), h2.res.kept1 hg (own_ne h2.own h2.res (by decide)), ho, ?_, h2.src.app hg (fun k hk => by have := (hr k hk).1; have := h.hg; omega), grown_app h2.sub hg (fun k hk => by have := (hr k hk).1; omega), Nat.le_trans h2.hs hg.size, h.hg, h.ap⟩
  refine World.ownsRow.kept h2.old hg ?_
  cases e : (Value.slice A ts.length cx).ownBlock with
  | none => exact .inl rfl
  | some k => exact .inr (fun e2 => by have := h.ap k e; have := (hr k e2.symm).1; omega)
theorem BadSt.old2 {w wr : World} {g : Nat} {code : List Int} {c : Int} {ts us : List T4} {A : Option Addr} {cx B : Nat} {v : Value} (h : BadSt w wr g code c ts A cx B v us) (x y : Value) :
    OwnT ((wr.setCell ⟨w.heap.size + 1, 0, none⟩ x).setCell ⟨w.heap.size + 1, 1, none⟩ y) B (.slice A ts.length cx) ts := by
  have hn : (Value.slice A ts.length cx).ownBlock = none ∨ (Value.slice A ts.length cx).ownBlock ≠ some (w.heap.size + 1) := by
    cases e : (Value.slice A ts.length cx).ownBlock with
    | none => exact .inl rfl
    | some k => exact .inr (fun e2 => by injection e2 with e2; have := h.ap k e; omega)
  exact World.ownsRow.kept (row := some (w.heap.size + 1)) (World.ownsRow.kept (row := some (w.heap.size + 1)) h.old (grownBy_store _ _ _ _) hn) (grownBy_store _ _ _ _) hn
set_option maxRecDepth 100000 in
set_option maxHeartbeats 8000000 in
theorem l01Bad_c (g : Nat) (code : List Int) (c : Int) (ts : List T4) (A : Option Addr) (cx B : Nat) (w : World) (h : Src w g code) (hO : OwnT w B (.slice A ts.length cx) ts) (hB : g < B) (hB2 : B ≤ w.heap.size) (hl : ts.length ≤ 100) :
    Calls Tryz.prog 123 #[.pointer (some ⟨g, 0, none⟩), .agg #[.int .i64 c, .slice A ts.length cx]] w (SetDrawn w g code B fun _ us => us.length ≤ 101) := by
  have HL := Lib.hid h.lt
  have HB0 := Lib.hid (And.intro hB hB2)
  have HS0 := Lib.hid h
  have HO0 := Lib.hid hO
  clear h hO hB hB2
  go_enter Tryz.func123, Tryz.ntmps123
  go_wp2_with (at_builtin; refine Hold.of ?_)
  refine Hold.to ?_
  obtain ⟨w2, hw2⟩ : ∃ w2, w2 = ((w.alloc (.cells #[.int .i64 c, .slice A ts.length cx] 32)).alloc (.cells #[.int .i64 0, .slice none 0 0] 32)) := ⟨_, rfl⟩
  have HQ0 : Hid (BadSt w (w2.alloc (.cells #[] 30)) g code c ts A cx B (.slice (some ⟨w.heap.size + 1 + 1, 0, none⟩) 0 0) []) := by
    have hb : Below w.heap.size w w2 := by rw [hw2]; exact below_al (below_al (Below.refl _ _))
    have hb3 := below_al (o := .cells #[] 30) hb
    have hz : w2.heap.size = w.heap.size + 2 := by rw [hw2]; simp
    have hbz := below_al (o := .cells #[] 30) (Below.refl w2.heap.size w2)
    refine ⟨?_, ?_, ?_, HO0.out.below hb3, HS0.out.below hb3, grown_below hb3 _, by rw [World.size_alloc]; omega, HL.out, fun k hk => (World.ownsRow.lt HO0.out k hk).2⟩
    · refine Blk.under ?_ hbz
      rw [hw2]; exact (Blk.newA w _ _).alloc _
    · refine Blk.under ?_ hbz
      rw [hw2]
      have := Blk.newA (w.alloc (.cells #[.int .i64 c, .slice A ts.length cx] 32)) #[.int .i64 0, .slice none 0 0] 32
      rwa [World.size_alloc] at this
    · have := OwnT.empty w2 w2.heap.size (Nat.le_refl _)
      rw [hz] at this
      exact this
  rw [← hw2]
  clear hw2
  refine wpl_app_tilesV rfl (.tmp 7) (.tmp 9) rfl (w.heap.size + 2) B _ (.slice A ts.length cx) [] ts rfl HQ0.out.own rfl HQ0.out.old (by simp; omega) HQ0.out.hs (fun v w3 a1 a2 => ?_)
  have HQ := Lib.hid (HQ0.out.app (Below.refl _ _) a2 a1)
  rw [List.nil_append] at HQ
  clear HQ0 a1 a2 HS0 HO0
  have HB1 := HB0.out.1
  go_wp2_with fail
  refine (l01Next_c g code _ _ HQ.out.src).mono ?_
  rintro e w4 ⟨r, rfl, r0, _, r1, S, G⟩
  replace HQ := Lib.hid (HQ.out.grow HB1 S G)
  clear S G r0 r1
  obtain ⟨Av, cv, rfl, -⟩ := HQ.out.own.tiles
  by_cases h0 : r = 0
  · subst h0
    have HU : Hid (ts.length ≤ 101) := by show _ ≤ _; omega
    go_wp2_with fail
    refine (pick_new g code _ HQ.out.src _ _ [0, 7, -1] _ rfl rfl (by simp)).mono ?_
    rintro e w5 ⟨r5, rfl, m5, S, G⟩
    replace HQ := Lib.hid (HQ.out.grow HB1 S G)
    clear S G m5
    have y0 := HQ.out.res.cell 0 (by simp)
    have y1 := HQ.out.res.cell 1 (by simp)
    have g0 := HQ.out.res.frozen 0
    have g1 := HQ.out.res.frozen 1
    simp only [List.getElem_cons_zero, List.getElem_cons_succ] at y0 y1
    go_wp2
    refine bodyPost_ret (v := .agg #[.int .i64 r5, .slice Av ts.length cv]) (by
      have x0 := ((HQ.out.res.set 0 (.int .i64 r5)).set 1 (.slice Av ts.length cv)).cell 0 (by simp)
      have x1 := ((HQ.out.res.set 0 (.int .i64 r5)).set 1 (.slice Av ts.length cv)).cell 1 (by simp)
      simp only [List.set_cons_zero, List.set_cons_succ, List.getElem_cons_zero, List.getElem_cons_succ] at x0 x1
      simp [results, Tryz.results123, go_sem, x0, x1]) rfl ?_
    have HB0' := HB0.out
    exact ⟨r5, ts, Av, cv, rfl, OwnT.lower ((HQ.out.own.other (w.heap.size + 1) 0 (by omega) _).other (w.heap.size + 1) 1 (by omega) _) (by omega), HU.out, (HQ.out.src.store (by have := HL.out; dsimp only; omega)).store (by have := HL.out; dsimp only; omega), grown_store (grown_store HQ.out.sub (by dsimp only; omega)) (by dsimp only; omega)⟩
  · replace h0 : (r == 0) = false := by simp [h0]
    by_cases h1 : r = 1
    · subst h1
      go_wp2_with fail
      have e0 := fun w1 (h : Blk w1 w.heap.size [.int .i64 c, .slice A ts.length cx] 32) => h.cell 0 (by simp)
      simp only [List.getElem_cons_zero, List.getElem_cons_succ] at e0
      refine wp_region_mix [(0, true), (1, true), (2, true), (3, true), (4, false), (5, false), (6, true), (7, false), (8, false), (9, true)] (fun w' => Blk w' w.heap.size [.int .i64 c, .slice A ts.length cx] 32) (by kernel_rfl) (by kernel_rfl) (fun _ _ d _ _ h => by cases d <;> exact h) (HQ.out.arg.drew) ?_
      repeat (first
        | (refine mix_skip rfl rfl (fun K' hK' => ?_); go_simp; refine hK' _ ?_; clear hK' K')
        | (refine mix_do (v := ?_) rfl rfl (fun w1 hb => ?_) (fun K' hK' => ?_); rotate_left
           · go_simp
             rfl
           go_simp; refine hK' _ ?_; clear hK' K'))
      replace HQ := Lib.hid (HQ.out.below (Below.refl _ _).drew)
      refine mix_call rfl rfl (fun K' hK' => ?_)
      go_simp
      refine hK' _ _ (HQ.out.arg.alloc _) ?_; clear hK' K'
      refine mix_call rfl rfl (fun K' hK' => ?_)
      go_simp
      refine (pick_new g code _ HQ.out.src _ _ [0, -1] _ rfl rfl (by simp)).mono ?_
      rintro e w5 ⟨r5, rfl, m5, S, G⟩
      replace HQ := Lib.hid (HQ.out.grow HB1 S G)
      clear S G m5
      refine hK' _ _ (HQ.out.arg) ?_; clear hK' K'
      repeat (first
        | (refine mix_skip rfl rfl (fun K' hK' => ?_); go_simp; refine hK' _ ?_; clear hK' K')
        | (refine mix_do (v := ?_) rfl rfl (fun w1 hb => ?_) (fun K' hK' => ?_); rotate_left
           · go_simp
             rfl
           go_simp; refine hK' _ ?_; clear hK' K'))
      refine mix_call rfl rfl (fun K' hK' => ?_)
      go_simp
      refine hK' _ _ (HQ.out.arg.alloc _) ?_; clear hK' K'
      refine mix_call rfl rfl (fun K' hK' => ?_)
      refine app_tiles (.tmp 23) (.tmp 30) rfl (w.heap.size + 2) _ ts [⟨c, 0, 0, r5⟩] rfl (HQ.out.own.alloc _) ⟨w5.heap.size, 0, none⟩ 1 rfl (fun j u hj => (OwnT.one w5 (⟨c, 0, 0, r5⟩ : T4) (Nat.le_refl _)).all j u hj) (by simp; omega) (by have := HQ.out.hs; simp; omega) (fun v' w' a1 a2 a3 => ?_)
      replace HQ := Lib.hid (HQ.out.app (below_al (Below.refl _ _)) a2 a1)
      clear a1 a2 a3 e0
      refine hK' _ _ (HQ.out.arg) ?_; clear hK' K'
      repeat (first
        | (refine mix_skip rfl rfl (fun K' hK' => ?_); go_simp; refine hK' _ ?_; clear hK' K')
        | (refine mix_do (v := ?_) rfl rfl (fun w1 hb => ?_) (fun K' hK' => ?_); rotate_left
           · go_simp
             rfl
           go_simp; refine hK' _ ?_; clear hK' K'))
      refine mix_nil ?_
      have HU : Hid ((ts ++ [(⟨c, 0, 0, r5⟩ : T4)]).length ≤ 101) := by show _ ≤ _; simp; omega
      generalize ts ++ [(⟨c, 0, 0, r5⟩ : T4)] = us at *
      obtain ⟨Av, cv, rfl, -⟩ := HQ.out.own.tiles
      have y0 := HQ.out.res.cell 0 (by simp)
      have y1 := HQ.out.res.cell 1 (by simp)
      have g0 := HQ.out.res.frozen 0
      have g1 := HQ.out.res.frozen 1
      simp only [List.getElem_cons_zero, List.getElem_cons_succ] at y0 y1
      have a0 := HQ.out.arg.cell 0 (by simp)
      simp only [List.getElem_cons_zero, List.getElem_cons_succ] at a0
      go_wp2
      refine bodyPost_ret (v := .agg #[.int .i64 c, .slice Av us.length cv]) (by
        have x0 := ((HQ.out.res.set 0 (.int .i64 c)).set 1 (.slice Av us.length cv)).cell 0 (by simp)
        have x1 := ((HQ.out.res.set 0 (.int .i64 c)).set 1 (.slice Av us.length cv)).cell 1 (by simp)
        simp only [List.set_cons_zero, List.set_cons_succ, List.getElem_cons_zero, List.getElem_cons_succ] at x0 x1
        simp [results, Tryz.results123, go_sem, x0, x1]) rfl ?_
      have HB0' := HB0.out
      exact ⟨c, us, Av, cv, rfl, OwnT.lower ((HQ.out.own.other (w.heap.size + 1) 0 (by omega) _).other (w.heap.size + 1) 1 (by omega) _) (by omega), HU.out, (HQ.out.src.store (by have := HL.out; dsimp only; omega)).store (by have := HL.out; dsimp only; omega), grown_store (grown_store HQ.out.sub (by dsimp only; omega)) (by dsimp only; omega)⟩
    · replace h1 : (r == 1) = false := by simp [h1]
      by_cases h2 : r = 2
      · subst h2
        have a0 := HQ.out.arg.cell 0 (by simp)
        simp only [List.getElem_cons_zero, List.getElem_cons_succ] at a0
        go_wp2_with fail
        refine (l01DrawTile_c g code c _ HQ.out.src).mono ?_
        rintro e w5 ⟨t, rfl, -, S, G⟩
        replace HQ := Lib.hid (HQ.out.grow HB1 S G)
        clear S G a0
        go_wp2_with (at_builtin; refine Hold.of ?_)
        refine Hold.to ?_
        refine wpl_app_tile rfl (.tmp 34) (.tmp 39) rfl (w.heap.size + 2) _ ts t rfl (HQ.out.own.alloc _) w5.heap.size rfl (Blk.newA _ _ _) (by omega) (by have := HQ.out.hs; simp; omega) (fun v' w' a1 a2 => ?_)
        replace HQ := Lib.hid (HQ.out.app (below_al (Below.refl _ _)) a2 a1)
        clear a1 a2
        have HU : Hid ((ts ++ [t]).length ≤ 101) := by show _ ≤ _; simp; omega
        generalize ts ++ [t] = us at *
        obtain ⟨Av, cv, rfl, -⟩ := HQ.out.own.tiles
        have y0 := HQ.out.res.cell 0 (by simp)
        have y1 := HQ.out.res.cell 1 (by simp)
        have g0 := HQ.out.res.frozen 0
        have g1 := HQ.out.res.frozen 1
        simp only [List.getElem_cons_zero, List.getElem_cons_succ] at y0 y1
        have a0 := HQ.out.arg.cell 0 (by simp)
        simp only [List.getElem_cons_zero, List.getElem_cons_succ] at a0
        go_wp2
        refine bodyPost_ret (v := .agg #[.int .i64 c, .slice Av us.length cv]) (by
          have x0 := ((HQ.out.res.set 0 (.int .i64 c)).set 1 (.slice Av us.length cv)).cell 0 (by simp)
          have x1 := ((HQ.out.res.set 0 (.int .i64 c)).set 1 (.slice Av us.length cv)).cell 1 (by simp)
          simp only [List.set_cons_zero, List.set_cons_succ, List.getElem_cons_zero, List.getElem_cons_succ] at x0 x1
          simp [results, Tryz.results123, go_sem, x0, x1]) rfl ?_
        have HB0' := HB0.out
        exact ⟨c, us, Av, cv, rfl, OwnT.lower ((HQ.out.own.other (w.heap.size + 1) 0 (by omega) _).other (w.heap.size + 1) 1 (by omega) _) (by omega), HU.out, (HQ.out.src.store (by have := HL.out; dsimp only; omega)).store (by have := HL.out; dsimp only; omega), grown_store (grown_store HQ.out.sub (by dsimp only; omega)) (by dsimp only; omega)⟩
      · replace h2 : (r == 2) = false := by simp [h2]
        by_cases h3 : r = 3
        · subst h3
          by_cases hlen : 1 < ts.length
          · obtain ⟨gT, cap, cur, ev, -⟩ := HQ.out.own.parts (by omega)
            injection ev with ev1 ev2 ev3
            subst ev1 ev3
            obtain ⟨c0, c1, c2, c3⟩ := HQ.out.own.tile 0 (by omega)
            obtain ⟨d0, d1, d2, d3⟩ := HQ.out.own.tile 1 hlen
            simp only [Nat.zero_mul, Nat.one_mul, Nat.zero_add, Nat.reduceAdd] at c0 c1 c2 c3 d0 d1 d2 d3
            have hlt4 : gT < w4.heap.size := (World.ownsRow.lt HQ.out.own gT rfl).2
            have hlen1 : (1 : Int) < (ts.length : Int) := by omega
            generalize hx : ts[0]'(by omega : 0 < ts.length) = x at *
            generalize hy : ts[1]'hlen = y at *
            have Hx := Lib.hid hx
            have Hy := Lib.hid hy
            clear hx hy
            obtain ⟨x0, x1, x2, x3⟩ := x
            obtain ⟨y0, y1, y2, y3⟩ := y
            dsimp only at c0 c1 c2 c3 d0 d1 d2 d3
            have D0 := Lib.hid (keepC d0)
            have D1 := Lib.hid (keepC d1)
            have D2 := Lib.hid (keepC d2)
            have D3 := Lib.hid (keepC d3)
            clear d0 d1 d2 d3
            go_upto_region 13 with (fail)
            obtain ⟨wb, hwb⟩ : ∃ wb, wb = w4.alloc (.cells #[.int .i64 x0, .int .i64 x1, .int .i64 x2, .int .i64 x3] 30) := ⟨_, rfl⟩
            have HX := Lib.hid (Blk.newA w4 #[.int .i64 x0, .int .i64 x1, .int .i64 x2, .int .i64 x3] 30)
            have hbb : Below w4.heap.size w4 wb := by rw [hwb]; exact below_al (Below.refl _ _)
            rw [← hwb] at HX
            rw [← hwb]
            clear hwb c0 c1 c2 c3
            replace HQ := Lib.hid (HQ.out.below hbb)
            have d0 := D0.out _ hbb
            have d1 := D1.out _ hbb
            have d2 := D2.out _ hbb
            have d3 := D3.out _ hbb
            have hne : gT ≠ w4.heap.size := by omega
            have HNE := Lib.hid hne
            obtain ⟨gx, hgx⟩ : ∃ gx, gx = w4.heap.size := ⟨_, rfl⟩
            rw [← hgx] at HX HNE
            rw [← hgx]
            clear hbb hne hlt4 hgx D0 D1 D2 D3
            obtain ⟨c0, c1, c2, c3⟩ := HQ.out.own.tile 0 (by omega)
            simp only [Nat.zero_mul, Nat.one_mul, Nat.zero_add, Nat.reduceAdd] at c0 c1 c2 c3
            have fz := HQ.out.own.frz
            have z0 := fz 0
            have z1 := fz 1
            have z2 := fz 2
            have z3 := fz 3
            clear fz
            go_upto_region 14 with (fail)
            obtain ⟨hS1, hS2⟩ := HQ.out.own.setT 0 (by omega) (⟨y0, y1, y2, y3⟩ : T4)
            simp only [Nat.zero_mul, Nat.zero_add] at hS1 hS2
            obtain ⟨wc, hwc⟩ : ∃ wc, wc = ((((wb.setCell ⟨gT, 0, none⟩ (.int .i64 y0)).setCell ⟨gT, 1, none⟩ (.int .i64 y1)).setCell ⟨gT, 2, none⟩ (.int .i64 y2)).setCell ⟨gT, 3, none⟩ (.int .i64 y3)) := ⟨_, rfl⟩
            rw [← hwc] at hS1 hS2
            rw [← hwc]
            clear hwc c0 c1 c2 c3 z0 z1 z2 z3 d0 d1 d2 d3
            have HX2 := Lib.hid (HX.out.kept1 hS2 (by have := HNE.out; intro e; injection e with e; exact this e))
            replace HQ := Lib.hid (HQ.out.app (Below.refl _ _) hS2 hS1)
            clear hS1 hS2
            have hl2 : 1 < (ts.set 0 (⟨y0, y1, y2, y3⟩ : T4)).length := by simpa using hlen
            have hlen2 : (ts.set 0 (⟨y0, y1, y2, y3⟩ : T4)).length = ts.length := by simp
            obtain ⟨L, hL⟩ : ∃ L, L = ts.set 0 (⟨y0, y1, y2, y3⟩ : T4) := ⟨_, rfl⟩
            rw [← hL] at HQ hl2 hlen2
            clear hL
            obtain ⟨e0, e1, e2, e3⟩ := HQ.out.own.tile 1 hl2
            simp only [Nat.one_mul, Nat.reduceAdd] at e0 e1 e2 e3
            have fz := HQ.out.own.frz
            have z4 := fz 4
            have z5 := fz 5
            have z6 := fz 6
            have z7 := fz 7
            clear fz
            have b0 := HX2.out.cell 0 (by simp)
            have b1 := HX2.out.cell 1 (by simp)
            have b2 := HX2.out.cell 2 (by simp)
            have b3 := HX2.out.cell 3 (by simp)
            simp only [List.getElem_cons_zero, List.getElem_cons_succ] at b0 b1 b2 b3
            generalize L[1]'hl2 = q at e0 e1 e2 e3
            have HL2 := Lib.hid hlen2
            have Hl2 := Lib.hid hl2
            clear hlen2 hl2
            go_upto_region 15 with (fail)
            obtain ⟨hS1, hS2⟩ := HQ.out.own.setT 1 Hl2.out (⟨x0, x1, x2, x3⟩ : T4)
            simp only [Nat.one_mul, Nat.reduceAdd] at hS1 hS2
            obtain ⟨wd, hwd⟩ : ∃ wd, wd = ((((wc.setCell ⟨gT, 4, none⟩ (.int .i64 x0)).setCell ⟨gT, 5, none⟩ (.int .i64 x1)).setCell ⟨gT, 6, none⟩ (.int .i64 x2)).setCell ⟨gT, 7, none⟩ (.int .i64 x3)) := ⟨_, rfl⟩
            rw [← hwd] at hS1 hS2
            rw [← hwd]
            clear hwd e0 e1 e2 e3 z4 z5 z6 z7 b0 b1 b2 b3
            replace HQ := Lib.hid (HQ.out.app (Below.refl _ _) hS2 hS1)
            clear hS1 hS2
            have HUS : Hid ((L.set 1 (⟨x0, x1, x2, x3⟩ : T4)).length = ts.length) := by show _ = _; rw [List.length_set]; exact HL2.out
            obtain ⟨us, hus⟩ : ∃ us, us = L.set 1 (⟨x0, x1, x2, x3⟩ : T4) := ⟨_, rfl⟩
            rw [← hus] at HQ HUS
            clear hus
            have HU : Hid (us.length ≤ 101) := by show _ ≤ _; rw [HUS.out]; omega
            have HQ2 : Hid (BadSt w wd g code c ts A cx B (.slice (some ⟨gT, 0, none⟩) us.length cv) us) := by rw [HUS.out]; exact HQ.out
            have y0 := HQ2.out.res.cell 0 (by simp)
            have y1 := HQ2.out.res.cell 1 (by simp)
            have g0 := HQ2.out.res.frozen 0
            have g1 := HQ2.out.res.frozen 1
            simp only [List.getElem_cons_zero, List.getElem_cons_succ] at y0 y1
            have a0 := HQ2.out.arg.cell 0 (by simp)
            simp only [List.getElem_cons_zero, List.getElem_cons_succ] at a0
            clear HQ
            go_wp2
            refine bodyPost_ret (v := .agg #[.int .i64 c, .slice (some ⟨gT, 0, none⟩) ts.length cv]) (by
              have x0 := ((HQ2.out.res.set 0 (.int .i64 c)).set 1 (.slice (some ⟨gT, 0, none⟩) ts.length cv)).cell 0 (by simp)
              have x1 := ((HQ2.out.res.set 0 (.int .i64 c)).set 1 (.slice (some ⟨gT, 0, none⟩) ts.length cv)).cell 1 (by simp)
              simp only [List.set_cons_zero, List.set_cons_succ, List.getElem_cons_zero, List.getElem_cons_succ] at x0 x1
              simp [results, Tryz.results123, go_sem, x0, x1]) rfl ?_
            have HB0' := HB0.out
            exact ⟨c, us, (some ⟨gT, 0, none⟩), cv, by rw [HUS.out], OwnT.lower ((HQ2.out.own.other (w.heap.size + 1) 0 (by omega) _).other (w.heap.size + 1) 1 (by omega) _) (by omega), HU.out, (HQ2.out.src.store (by have := HL.out; dsimp only; omega)).store (by have := HL.out; dsimp only; omega), grown_store (grown_store HQ2.out.sub (by dsimp only; omega)) (by dsimp only; omega)⟩
          · have hlen' : ¬ ((1 : Int) < (ts.length : Int)) := by omega
            have HU : Hid (ts.length ≤ 101) := by show _ ≤ _; omega
            obtain ⟨us, hus⟩ : ∃ us, us = ts := ⟨_, rfl⟩
            rw [← hus] at HU
            have HUS : Hid (us.length = ts.length) := by rw [hus]; exact rfl
            have HQ2 : Hid (BadSt w w4 g code c ts A cx B (.slice Av us.length cv) us) := by rw [hus]; exact HQ.out
            clear hus
            go_upto_region 15 with (fail)
            have y0 := HQ2.out.res.cell 0 (by simp)
            have y1 := HQ2.out.res.cell 1 (by simp)
            have g0 := HQ2.out.res.frozen 0
            have g1 := HQ2.out.res.frozen 1
            simp only [List.getElem_cons_zero, List.getElem_cons_succ] at y0 y1
            have a0 := HQ2.out.arg.cell 0 (by simp)
            simp only [List.getElem_cons_zero, List.getElem_cons_succ] at a0
            clear HQ
            go_wp2
            refine bodyPost_ret (v := .agg #[.int .i64 c, .slice Av ts.length cv]) (by
              have x0 := ((HQ2.out.res.set 0 (.int .i64 c)).set 1 (.slice Av ts.length cv)).cell 0 (by simp)
              have x1 := ((HQ2.out.res.set 0 (.int .i64 c)).set 1 (.slice Av ts.length cv)).cell 1 (by simp)
              simp only [List.set_cons_zero, List.set_cons_succ, List.getElem_cons_zero, List.getElem_cons_succ] at x0 x1
              simp [results, Tryz.results123, go_sem, x0, x1]) rfl ?_
            have HB0' := HB0.out
            exact ⟨c, us, Av, cv, by rw [HUS.out], OwnT.lower ((HQ2.out.own.other (w.heap.size + 1) 0 (by omega) _).other (w.heap.size + 1) 1 (by omega) _) (by omega), HU.out, (HQ2.out.src.store (by have := HL.out; dsimp only; omega)).store (by have := HL.out; dsimp only; omega), grown_store (grown_store HQ2.out.sub (by dsimp only; omega)) (by dsimp only; omega)⟩
        · replace h3 : (r == 3) = false := by simp [h3]
          have y0 := HQ.out.res.cell 0 (by simp)
          have y1 := HQ.out.res.cell 1 (by simp)
          have g0 := HQ.out.res.frozen 0
          have g1 := HQ.out.res.frozen 1
          simp only [List.getElem_cons_zero, List.getElem_cons_succ] at y0 y1
          have a0 := HQ.out.arg.cell 0 (by simp)
          have a1 := HQ.out.arg.cell 1 (by simp)
          simp only [List.getElem_cons_zero, List.getElem_cons_succ] at a0 a1
          go_wp2
          refine bodyPost_ret (v := .agg #[.int .i64 c, .slice A ts.length cx]) (by
            have x0 := ((HQ.out.res.set 0 (.int .i64 c)).set 1 (.slice A ts.length cx)).cell 0 (by simp)
            have x1 := ((HQ.out.res.set 0 (.int .i64 c)).set 1 (.slice A ts.length cx)).cell 1 (by simp)
            simp only [List.set_cons_zero, List.set_cons_succ, List.getElem_cons_zero, List.getElem_cons_succ] at x0 x1
            simp [results, Tryz.results123, go_sem, x0, x1]) rfl ?_
          exact ⟨c, ts, A, cx, rfl, HQ.out.old2 _ _, by omega, (HQ.out.src.store (by have := HL.out; dsimp only; omega)).store (by have := HL.out; dsimp only; omega), grown_store (grown_store HQ.out.sub (by dsimp only; omega)) (by dsimp only; omega)⟩

end Go.Proofs.YtnoehaphbpkpjaaGreat
namespace Go.Proofs.YtnoehaphbpkpjaaGreat
open Go.RowKit
/-- a slice of slices of numbers none of whose blocks lies below N, each row with room enough -/
def RowsN (w : World) (N : Nat) (A : Option Addr) (L : List (List Int)) : Prop :=
  ∀ k (h : k < L.length), ∃ b off A' cx, A = some ⟨b, off, none⟩ ∧ N ≤ b ∧ b < w.heap.size ∧ w.cell? ⟨b, off + k, none⟩ = some (.slice A' L[k].length cx) ∧ L[k].length ≤ cx ∧ Cells w A' (ints L[k]) ∧ ∀ b1 o1, A' = some ⟨b1, o1, none⟩ → N ≤ b1
theorem RowsN.rows {w : World} {N : Nat} {A : Option Addr} {L : List (List Int)} (h : RowsN w N A L) : RowsC w A L := fun k hk => by
  obtain ⟨b, off, A', cx, e, h1, h2, h3, h4, h5, h6⟩ := h k hk
  exact ⟨b, off, A', cx, e, h2, h3, h5⟩
theorem RowsN.caps {w : World} {N : Nat} {A : Option Addr} {L : List (List Int)} (h : RowsN w N A L) : CapsC w A L := fun k hk b off A' cx e hc => by
  obtain ⟨b', off', A'', cx', e', h1, h2, h3, h4, h5, h6⟩ := h k hk
  rw [e] at e'
  injection e' with e'
  injection e' with e1 e2
  subst e1 e2
  rw [hc] at h3
  injection h3 with h3
  injection h3 with _ _ h3
  omega
theorem RowsN.grew {w w1 : World} {N g : Nat} {A : Option Addr} {L : List (List Int)} (h : RowsN w N A L) (hg : w.grownBy w1 (some g)) (hlt : g < N) : RowsN w1 N A L := fun k hk => by
  obtain ⟨b, off, A', cx, e, h1, h2, h3, h4, h5, h6⟩ := h k hk
  exact ⟨b, off, A', cx, e, h1, Nat.lt_of_lt_of_le h2 hg.size, hg.cell h3 (fun e => by injection e with e; dsimp only at e; omega), h4, h5.grown hg (fun b1 o1 e => by have := h6 b1 o1 e; omega), h6⟩
theorem RowsN.below {w w1 : World} {N : Nat} {A : Option Addr} {L : List (List Int)} (h : RowsN w N A L) (hb : Below w.heap.size w w1) : RowsN w1 N A L := fun k hk => by
  obtain ⟨b, off, A', cx, e, h1, h2, h3, h4, h5, h6⟩ := h k hk
  exact ⟨b, off, A', cx, e, h1, Nat.lt_of_lt_of_le h2 hb.size, (hb.cell (p := ⟨b, _, none⟩) h2).trans h3, h4, h5.below hb, h6⟩
theorem RowsN.store {w : World} {N b o : Nat} {v : Value} {A : Option Addr} {L : List (List Int)} (h : RowsN w N A L) (hb : b < N) : RowsN (w.setCell ⟨b, o, none⟩ v) N A L := fun k hk => by
  obtain ⟨b1, off, A', cx, e, h1, h2, h3, h4, h5, h6⟩ := h k hk
  refine ⟨b1, off, A', cx, e, h1, by simpa [World.setCell] using h2, by rw [cell_set_ne _ _ _ _ _ (by dsimp only; omega)]; exact h3, h4, fun j hj => ?_, h6⟩
  obtain ⟨b2, o2, e2, hc⟩ := h5 j hj
  exact ⟨b2, o2, e2, by rw [cell_set_ne _ _ _ _ _ (by have := h6 b2 o2 e2; dsimp only; omega)]; exact hc⟩
theorem RowsN.lower {w : World} {N N' : Nat} {A : Option Addr} {L : List (List Int)} (h : RowsN w N A L) (hN : N' ≤ N) : RowsN w N' A L := fun k hk => by
  obtain ⟨b1, off, A', cx, e, h1, h2, h3, h4, h5, h6⟩ := h k hk
  exact ⟨b1, off, A', cx, e, by omega, h2, h3, h4, h5, fun b o e => by have := h6 b o e; omega⟩
theorem OwnII.grew {w w1 : World} {B g : Nat} {v : Value} {L : List (List Int)} (h : OwnII w B v L) (hg : w.grownBy w1 (some g)) (hlt : g < B) : OwnII w1 B v L := by
  obtain ⟨vs, h1, h2, h3, h4⟩ := h
  refine ⟨vs, World.ownsRow.kept h1 hg ?_, fun i hi hi' => (h2 i hi hi').grew hg hlt, h3, h4⟩
  cases e : v.ownBlock with
  | none => exact .inl rfl
  | some k => exact .inr (fun e2 => by injection e2 with e2; have := (World.ownsRow.lt h1 k e).1; omega)
theorem OwnII.rowsN {w : World} {B n cx : Nat} {A : Option Addr} {L : List (List Int)} (h : OwnII w B (.slice A n cx) L) : RowsN w B A L := fun k hk => by
  have hc := h.caps
  obtain ⟨vs, h1, h2, h3, h4⟩ := h
  have hvl : vs.length = L.length := by have := h1.1; omega
  obtain ⟨A', c', e, hC, _⟩ := (h2 k (by omega) hk).shape
  obtain ⟨gv, rfl, hgv1, hgv2⟩ : ∃ gv, A = some ⟨gv, 0, none⟩ ∧ B ≤ gv ∧ gv < w.heap.size := by
    rcases h1.2 with ⟨_, e0⟩ | ⟨gv, cap, cur, e1, e2, e3, _⟩
    · omega
    · injection e1 with a1 _ _
      exact ⟨gv, a1, e2, (Array.getElem?_eq_some_iff.1 e3).1⟩
  have hn : n = L.length := by
    rcases h1.2 with ⟨e0, _⟩ | ⟨gv', cap, cur, e1, _⟩
    · cases e0
    · injection e1
  subst hn
  have hcell : w.cell? ⟨gv, 0 + k, none⟩ = some (.slice A' L[k].length c') := by rw [Nat.zero_add, World.ownsRow.cellAt h1 k (by omega), List.getElem?_eq_getElem (by omega), e]
  refine ⟨gv, 0, A', c', rfl, by omega, hgv2, hcell, hc k hk gv 0 A' c' rfl hcell, hC, fun b1 o1 ea => ?_⟩
  have := World.ownsRow.lt (h2 k (by omega) hk)
  rw [e, ea] at this
  obtain ⟨_, ⟨ev, _⟩ | ⟨gq, cap, cur, ev, hq, _⟩⟩ := h2 k (by omega) hk
  · rw [e, ea] at ev; cases ev
  · rw [e, ea] at ev
    injection ev with ev
    injection ev with ev
    injection ev with ev
    omega
/-- a row cut short in its place -/
theorem OwnII.cut {w : World} {B n cx : Nat} {A : Option Addr} {L : List (List Int)} (h : OwnII w B (.slice A n cx) L) (h0 : 0 < L.length) (m : Nat) (hm : m ≤ L[0].length) (h1' : 0 < L[0].length) :
    ∃ gv g0 c0, A = some ⟨gv, 0, none⟩ ∧ B ≤ gv ∧ gv < w.heap.size ∧ w.cell? ⟨gv, 0, none⟩ = some (.slice (some ⟨g0, 0, none⟩) L[0].length c0) ∧ w.frozen? ⟨gv, 0, none⟩ = false ∧ L[0].length ≤ c0 ∧
      RowsN (w.setCell ⟨gv, 0, none⟩ (.slice (some ⟨g0, 0, none⟩) m c0)) B A (L.set 0 (L[0].take m)) := by
  have hN := h.rowsN
  have hI := h
  obtain ⟨b, off, A0, c0, rfl, q1, q2, q3, q4, q5, q6⟩ := hN 0 h0
  obtain ⟨vs, h1, h2, h3, h4⟩ := hI
  have hvl : vs.length = L.length := by have := h1.1; omega
  obtain ⟨gv, e1, hgv1, hgv2⟩ : ∃ gv, (some ⟨b, off, none⟩ : Option Addr) = some ⟨gv, 0, none⟩ ∧ B ≤ gv ∧ gv < w.heap.size := by
    rcases h1.2 with ⟨_, e0⟩ | ⟨gv, cap, cur, e1, e2, e3, _⟩
    · omega
    · injection e1 with a1 _ _
      exact ⟨gv, a1, e2, (Array.getElem?_eq_some_iff.1 e3).1⟩
  injection e1 with e1
  injection e1 with e1 e2
  subst e1 e2
  have hn : n = L.length := by
    rcases h1.2 with ⟨e0, _⟩ | ⟨gv', cap, cur, e1, _⟩
    · cases e0
    · injection e1
  subst hn
  have hv0 : vs[0]'(by omega) = .slice A0 L[0].length c0 := by
    have := World.ownsRow.cellAt h1 0 (by omega)
    rw [List.getElem?_eq_getElem (by omega)] at this
    rw [Nat.add_zero] at q3
    rw [q3] at this
    injection this with this
    exact this.symm
  obtain ⟨g0, rfl⟩ : ∃ g0, A0 = some ⟨g0, 0, none⟩ := by
    obtain ⟨_, ⟨ev, ez⟩ | ⟨gq, cap, cur, ev, _⟩⟩ := h2 0 (by omega) h0
    · omega
    · rw [hv0] at ev
      injection ev with ev
      exact ⟨gq, ev⟩
  have hz : w.frozen? ⟨b, 0, none⟩ = false := World.ownsRow.frozenAt h1 0
  have hrow : ∀ i (hi : i < L.length) b1 o1, (∃ n' c', vs[i]'(by omega) = .slice (some ⟨b1, o1, none⟩) n' c') → b1 ≠ b := fun i hi b1 o1 ⟨n', c', e⟩ eb => by
    rcases h4 i (by omega) with e4 | e4
    · rw [e] at e4
      obtain ⟨_, ⟨ev, _⟩ | ⟨gq, cap, cur, ev, _⟩⟩ := h2 i (by omega) hi
      · rw [e] at ev; cases ev
      · rw [e] at ev
        injection ev with ev
        injection ev with ev
        injection ev with ev ev2
        subst ev ev2
        cases e4
    · obtain ⟨_, ⟨ev, _⟩ | ⟨gq, cap, cur, ev, _⟩⟩ := h2 i (by omega) hi
      · rw [e] at ev; cases ev
      · rw [e] at ev
        injection ev with ev
        injection ev with ev
        injection ev with ev ev2
        subst ev ev2
        rw [e] at e4
        exact e4 (by subst eb; rfl)
  refine ⟨b, g0, c0, rfl, hgv1, hgv2, q3, hz, q4, fun k hk => ?_⟩
  rw [List.length_set] at hk
  by_cases ek : k = 0
  · subst ek
    have hgb : g0 ≠ b := hrow 0 h0 g0 0 ⟨_, _, hv0⟩
    refine ⟨b, 0, some ⟨g0, 0, none⟩, c0, rfl, q1, by simpa [World.setCell] using q2, ?_, ?_, ?_, q6⟩
    · rw [List.getElem_set_self, List.length_take, Nat.min_eq_left hm, Nat.add_zero]
      exact World.cell?_setCell_same w _ _ q3
    · rw [List.getElem_set_self, List.length_take]; omega
    · rw [List.getElem_set_self]
      intro j hj
      rw [ints_length, List.length_take] at hj
      obtain ⟨b', o', e', hc'⟩ := q5 j (by rw [ints_length]; omega)
      injection e' with e'
      injection e' with e1 e2
      subst e1 e2
      refine ⟨g0, 0, rfl, ?_⟩
      rw [cell_set_ne _ _ _ _ _ hgb, hc']
      simp [ints]
  · obtain ⟨b', off', A', c', e', p1, p2, p3, p4, p5, p6⟩ := hN k hk
    injection e' with e'
    injection e' with e1 e2
    subst e1 e2
    have hvk : vs[k]'(by omega) = .slice A' L[k].length c' := by
      have := World.ownsRow.cellAt h1 k (by omega)
      rw [List.getElem?_eq_getElem (by omega)] at this
      rw [Nat.zero_add] at p3
      rw [p3] at this
      injection this with this
      exact this.symm
    refine ⟨b, 0, A', c', rfl, p1, by simpa [World.setCell] using p2, ?_, ?_, ?_, p6⟩
    · rw [List.getElem_set_ne (by omega)]
      exact (World.cell?_setCell_other w _ _ _ (by intro e; injection e with _ e; omega)).trans p3
    · rw [List.getElem_set_ne (by omega)]; exact p4
    · rw [List.getElem_set_ne (by omega)]
      intro j hj
      obtain ⟨b2, o2, e2, hc2⟩ := p5 j hj
      refine ⟨b2, o2, e2, ?_⟩
      rw [cell_set_ne _ _ _ _ _ (by subst e2; exact hrow k hk b2 o2 ⟨_, _, hvk⟩)]
      exact hc2
end Go.Proofs.YtnoehaphbpkpjaaGreat
