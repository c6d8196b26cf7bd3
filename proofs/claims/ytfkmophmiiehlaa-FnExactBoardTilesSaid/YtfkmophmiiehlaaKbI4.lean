/- Contracts and lemmas for the statements of this seat, written for this claim; each theorem states its own conditions. -/
import Derived.Laws.IdiomCopy
import Derived.Test.YtfkmophmiiehlaaKbI3
import Derived.Test.YtfkmophmiiehlaaKbSe
import Derived.Test.YtfkmophmiiehlaaKbAp
set_option linter.unusedVariables false
set_option linter.unusedSimpArgs false
namespace Go.Proofs.Ytfkmophmiiehlaa
open Go.RowKit
attribute [local go_sem] addUpon_value addUpon_skip addUpon_enter
def turnT (t : T4) : T4 := ⟨t.d, t.a, t.b, t.c⟩
set_option maxRecDepth 100000 in
set_option maxHeartbeats 1000000 in
theorem sides_c (t : T4) (w : World) :
    Calls Try.prog 153 #[.agg #[.int .i64 t.a, .int .i64 t.b, .int .i64 t.c, .int .i64 t.d], .int .i64 3, .int .i64 0, .int .i64 1, .int .i64 2] w fun e w' => e = .returned (.agg #[.int .i64 (turnT t).a, .int .i64 (turnT t).b, .int .i64 (turnT t).c, .int .i64 (turnT t).d]) ∧ Below w.heap.size w w' := by
  obtain ⟨a, b, c, d⟩ := t
  go_enter Try.func153, Try.ntmps153
  go_wp2_with fail
  obtain ⟨wt, hwt⟩ : ∃ wt, (w.alloc (.cells #[.int .i64 a, .int .i64 b, .int .i64 c, .int .i64 d] 57)).alloc (.cells #[.int .i64 0, .int .i64 0, .int .i64 0, .int .i64 0] 57) = wt := ⟨_, rfl⟩
  have k0 : Blk wt w.heap.size [.int .i64 a, .int .i64 b, .int .i64 c, .int .i64 d] 57 := by rw [← hwt]; exact (Blk.new w _ _).alloc _
  have n0 : Blk wt (w.heap.size + 1) [.int .i64 0, .int .i64 0, .int .i64 0, .int .i64 0] 57 := by
    rw [← hwt]
    have := Blk.new (w.alloc (.cells #[.int .i64 a, .int .i64 b, .int .i64 c, .int .i64 d] 57)) [.int .i64 0, .int .i64 0, .int .i64 0, .int .i64 0] 57
    rw [World.size_alloc] at this
    exact this
  have hb0 : Below w.heap.size w wt := by rw [← hwt]; (repeat (first | (with_reducible exact Below.refl _ _) | (with_reducible assumption) | (with_reducible refine below_al ?_) | (with_reducible refine below_dr ?_) | (with_reducible refine below_drN ?_) | (with_reducible refine below_set ?_ (by first | exact Nat.le_refl _ | (dsimp only; omega) | omega)) | (with_reducible refine below_tr (by with_reducible assumption) ?_)))
  rw [hwt]
  clear hwt
  have e : ∀ j (hj : j < 4), ∀ w1, Below wt.heap.size wt w1 → w1.cell? ⟨w.heap.size, j, none⟩ = some [Value.int .i64 a, .int .i64 b, .int .i64 c, .int .i64 d][j] := fun j hj w1 h => (k0.under h).cell j hj
  have e0 := e 0 (by omega)
  have e1 := e 1 (by omega)
  have e2 := e 2 (by omega)
  have e3 := e 3 (by omega)
  simp only [List.getElem_cons_zero, List.getElem_cons_succ] at e0 e1 e2 e3
  clear e k0
  refine wp_region_add_tail 13 (fun w' => Below (wt).heap.size (wt) w') (by kernel_rfl) (by kernel_rfl) ((Below.refl _ _).drew) ?_
  simp only [List.take_succ_cons, List.take_zero, List.drop_succ_cons, List.drop_zero]
  repeat (first
    | (refine add_skip rfl (fun K' hK' => ?_); go_simp; refine hK' _ ?_; clear hK' K')
    | (refine add_do (v := ?_) rfl (fun w1 hb => ?_) (fun K' hK' => ?_); rotate_left
       · go_simp
         first
         | (with_reducible exact rfl)
         | (with_reducible exact ⟨rfl, hb⟩)
         | exact rfl
         | exact ⟨rfl, hb⟩
       go_simp; refine hK' _ ?_; clear hK' K'))
  refine add_nil ?_
  intro wa hba
  have N := n0.under hba
  have y0 := N.cell 0 (by simp)
  have y1 := N.cell 1 (by simp)
  have y2 := N.cell 2 (by simp)
  have y3 := N.cell 3 (by simp)
  have f0 := N.frozen 0
  have f1 := N.frozen 1
  have f2 := N.frozen 2
  have f3 := N.frozen 3
  simp only [List.getElem_cons_zero, List.getElem_cons_succ] at y0 y1 y2 y3
  clear e0 e1 e2 e3
  go_wp2
  refine bodyPost_ret (v := .agg #[.int .i64 d, .int .i64 a, .int .i64 b, .int .i64 c]) (by simp [results, Try.results153, go_sem, y0, y1, y2, y3]) rfl ⟨rfl, ?_⟩
  have hba' := hb0.trans (hba.mono hb0.size)
  (repeat (first | (with_reducible exact Below.refl _ _) | (with_reducible assumption) | (with_reducible refine below_al ?_) | (with_reducible refine below_dr ?_) | (with_reducible refine below_drN ?_) | (with_reducible refine below_set ?_ (by first | exact Nat.le_refl _ | (dsimp only; omega) | omega)) | (with_reducible refine below_tr (by with_reducible assumption) ?_)))
set_option maxRecDepth 100000 in
set_option maxHeartbeats 1000000 in
theorem turned_c (t : T4) (w : World) :
    Calls Try.prog 130 #[.agg #[.int .i64 t.a, .int .i64 t.b, .int .i64 t.c, .int .i64 t.d]] w fun e w' => e = .returned (.agg #[.int .i64 (turnT t).a, .int .i64 (turnT t).b, .int .i64 (turnT t).c, .int .i64 (turnT t).d]) ∧ Below w.heap.size w w' := by
  have H := Lib.hid (fun w => sides_c t w)
  generalize turnT t = u at *
  obtain ⟨a, b, c, d⟩ := t
  obtain ⟨a', b', c', d'⟩ := u
  go_enter Try.func130, Try.ntmps130
  go_wp2_with fail
  refine (H.out _).mono ?_
  rintro e w1 ⟨rfl, hb1⟩
  obtain ⟨hc1, hf1⟩ := bcell hb1
  go_wp2
  refine bodyPost_ret (v := .agg #[.int .i64 a', .int .i64 b', .int .i64 c', .int .i64 d']) (by simp [results, Try.results130, go_sem, hc1]) rfl ⟨rfl, ?_⟩
  (repeat (first | (with_reducible exact Below.refl _ _) | (with_reducible assumption) | (with_reducible refine below_al ?_) | (with_reducible refine below_dr ?_) | (with_reducible refine below_drN ?_) | (with_reducible refine below_set ?_ (by first | exact Nat.le_refl _ | (dsimp only; omega) | omega)) | (with_reducible refine below_tr (by with_reducible assumption) ?_)))
theorem wpl_app_tile {ops : Array Oper} {rest : List Oper} {o : Oper} {a : Act} {W : World} {Q : Exit → Act → World → Prop} (hgd : o.guard = none) (s x : Operand)
    (ho : o.op = .call { callee := .builtin .append, args := #[s, x], argTypes := #[29, 29] }) (B : Nat) (v : Value) (ts : List T4) (t : T4) (hs : a.eval s = v) (hown : OwnT W B v ts)
    (b : Nat) (hx : a.eval x = .slice (some ⟨b, 0, none⟩) 1 1) (hc : Blk W b [.int .i64 t.a, .int .i64 t.b, .int .i64 t.c, .int .i64 t.d] 57) (hl : ts.length ≤ 1000000000) (hB : B ≤ W.heap.size)
    (h : ∀ v' w', OwnT w' B v' (ts ++ [t]) → W.grownBy w' v.ownBlock → wpList Try.prog ops Q rest (a.put o.dst v') w') : wpList Try.prog ops Q (o :: rest) a W := by
  obtain ⟨i0, hi, hz0, hz1, hz2⟩ := info_parts infoTile2
  refine wpList_append_own W hgd s x 29 ho B 57 i0 (.agg #[.int .i64 0, .int .i64 0, .int .i64 0, .int .i64 0]) 4 32 Try.underlying29 hi hz0 hz1 hz2 rfl (by decide) v ts.length (tcells ts) hs hown ⟨b, 0, none⟩ 1 1 [.int .i64 t.a, .int .i64 t.b, .int .i64 t.c, .int .i64 t.d] hx rfl ?_ (by simp [Value.oneCell']) (by simp [maxLen]; omega) (by omega) hB ?_
  · intro j u hj
    have := hc.cell? j
    rw [hj] at this
    cases j with
    | zero => simpa [Addr.add] using this
    | succ j => simpa [Addr.add] using this
  · intro v' w' h1 h2 _
    refine h v' w' ?_ h2
    unfold OwnT
    rw [tcells_snoc, List.length_append]
    exact h1
def turnN (t : T4) : Nat → T4
  | 0 => t
  | n + 1 => turnT (turnN t n)
def turnsL (t : T4) (k : Nat) : List T4 := (List.range k).map (turnN t)
theorem turnsL_succ (t : T4) (k : Nat) : turnsL t (k + 1) = turnsL t k ++ [turnN t k] := by simp [turnsL, List.range_succ]
theorem turnsL_length (t : T4) (k : Nat) : (turnsL t k).length = k := by simp [turnsL]
theorem OwnT.empty (w : World) (B : Nat) (hB : B ≤ w.heap.size) : OwnT (w.alloc (.cells #[] 57)) B (.slice (some ⟨w.heap.size, 0, none⟩) 0 0) [] :=
  World.ownsRow_lit (base := B) (e := 57) (size := 4) w #[] 0 hB (by decide) rfl
theorem OwnT.alloc {w : World} {B : Nat} {v : Value} {ts : List T4} (h : OwnT w B v ts) (o : Obj) : OwnT (w.alloc o) B v ts := World.ownsRow.alloc h o
theorem OwnT.other {w : World} {B : Nat} {v : Value} {ts : List T4} (h : OwnT w B v ts) (b k : Nat) (hb : b < B) (u : Value) : OwnT (w.setCell ⟨b, k, none⟩ u) B v ts := by
  refine World.ownsRow.kept (row := some b) h ⟨rfl, rfl, rfl, (KeepsWalks.setCell w _ u).size, fun j _ hj => Below.heap_setCell _ _ _ j (fun e => hj (by rw [e]))⟩ ?_
  obtain ⟨h1, ⟨rfl, h2⟩ | ⟨g, cap, cur, rfl, e2, e3⟩⟩ := h
  · exact .inl rfl
  · refine .inr (fun e => ?_)
    have e' : g = b := Option.some.inj e
    omega
set_option maxRecDepth 100000 in
set_option maxHeartbeats 1000000 in
theorem turns_c (t : T4) (w : World) :
    Calls Try.prog 77 #[.agg #[.int .i64 t.a, .int .i64 t.b, .int .i64 t.c, .int .i64 t.d]] w fun e w' => ∃ v, e = .returned v ∧ OwnT w' (w.heap.size + 1) v (turnsL t 4) ∧ Below w.heap.size w w' := by
  have HT := Lib.hid (fun t w => turned_c t w)
  go_enter Try.func77, Try.ntmps77
  go_wp2
  go_loopw [3, 5] (fun v i wr => ∃ k : Nat, k ≤ 4 ∧ i = .int .i64 k ∧ OwnT wr (w.heap.size + 1) v (turnsL t k) ∧ Blk wr w.heap.size (ints (turnN t k).l) 57 ∧ Below w.heap.size w wr) (fun v i _ => 4 - (intOf i).toNat)
  case atStart =>
    refine ⟨0, by omega, rfl, ?_, ?_, by (repeat (first | (with_reducible exact Below.refl _ _) | (with_reducible assumption) | (with_reducible refine below_al ?_) | (with_reducible refine below_dr ?_) | (with_reducible refine below_drN ?_) | (with_reducible refine below_set ?_ (by first | exact Nat.le_refl _ | (dsimp only; omega) | omega)) | (with_reducible refine below_tr (by with_reducible assumption) ?_)))⟩
    · have := OwnT.empty (w.alloc (.cells #[.int .i64 t.a, .int .i64 t.b, .int .i64 t.c, .int .i64 t.d] 57)) (w.heap.size + 1) (by simp)
      rw [World.size_alloc] at this
      exact this
    · exact (Blk.newA w #[.int .i64 t.a, .int .i64 t.b, .int .i64 t.c, .int .i64 t.d] 57).alloc _
  case round =>
    obtain ⟨k, hk, rfl, hO, hB, hb⟩ := hrel
    have hO' := Lib.hid hO
    have hB' := Lib.hid hB
    clear hO
    have hsz := turnsL_length t k
    have HL := Lib.hid hsz
    have HS := Lib.hid (turnsL_succ t k)
    have hN : turnN t (k + 1) = turnT (turnN t k) := rfl
    have HN := Lib.hid hN
    clear hsz hN
    generalize turnN t k = u at *
    have y0 := hB.cell 0 (by simp [ints, T4.l])
    have y1 := hB.cell 1 (by simp [ints, T4.l])
    have y2 := hB.cell 2 (by simp [ints, T4.l])
    have y3 := hB.cell 3 (by simp [ints, T4.l])
    simp only [ints, T4.l, List.map_cons, List.getElem_cons_zero, List.getElem_cons_succ] at y0 y1 y2 y3
    have hwl := Lib.hid hB.lt
    clear hB
    by_cases h1 : k < 4
    · skip
      go_wp2_with (at_builtin; refine Hold.of ?_)
      refine Hold.to ?_
      refine wpl_app_tile rfl (.tmp 7) (.tmp 9) rfl (w.heap.size + 1) _ _ u rfl (hO'.out.alloc _) wr.heap.size rfl (Blk.newA _ _ _) (by have := HL.out; omega) (by have := hB'.out.lt; have := hb.size; simp; omega) (fun v' w' h1 h2 => ?_)
      have hk1 : Blk w' w.heap.size (ints u.l) 57 := (h2.block _ (by have := hwl.out; simp; omega) (fun e => by have := (World.ownsRow.lt hO'.out _ e.symm).1; omega)).trans (hB'.out.alloc _)
      have hb1 : Below w.heap.size w w' := (hb.alloc hb.size _).grown h2 (by have := hb.size; simp; omega) (fun j hj => by have := (World.ownsRow.lt hO'.out j hj).1; omega)
      clear y0 y1 y2 y3 hb
      have y0 := hk1.cell 0 (by simp [ints, T4.l])
      have y1 := hk1.cell 1 (by simp [ints, T4.l])
      have y2 := hk1.cell 2 (by simp [ints, T4.l])
      have y3 := hk1.cell 3 (by simp [ints, T4.l])
      simp only [ints, T4.l, List.map_cons, List.getElem_cons_zero, List.getElem_cons_succ] at y0 y1 y2 y3
      have hk1' := Lib.hid hk1
      have hb1' := Lib.hid hb1
      have hO1 := Lib.hid h1
      clear hk1 hb1 h1 h2 hO' hB'
      have HT' := Lib.hid (HT.out u w')
      have HN' := HN
      generalize turnT u = u' at *
      go_wp2_with fail
      refine HT'.out.mono ?_
      rintro e w1 ⟨rfl, hb2⟩
      obtain ⟨hc1, hf1⟩ := bcell hb2
      have q := hk1'.out.under hb2
      have f0 := q.frozen 0
      have f1 := q.frozen 1
      have f2 := q.frozen 2
      have f3 := q.frozen 3
      have z0 := q.cell 0 (by simp [ints, T4.l])
      have z1 := q.cell 1 (by simp [ints, T4.l])
      have z2 := q.cell 2 (by simp [ints, T4.l])
      have z3 := q.cell 3 (by simp [ints, T4.l])
      simp only [ints, T4.l, List.map_cons, List.getElem_cons_zero, List.getElem_cons_succ] at z0 z1 z2 z3
      have q' := Lib.hid q
      clear q
      go_wp2
      go_roundw
      case rel =>
        refine ⟨k + 1, by omega, by go_num, ?_, ?_, ?_⟩
        · rw [HS.out]
          exact ((((hO1.out.below hb2).other _ 0 (by omega) _).other _ 1 (by omega) _).other _ 2 (by omega) _).other _ 3 (by omega) _
        · rw [HN'.out]
          exact (((q'.out.set 0 _).set 1 _).set 2 _).set 3 _
        · have hb1 := hb1'.out
          (repeat (first | (with_reducible exact Below.refl _ _) | (with_reducible assumption) | (with_reducible refine below_al ?_) | (with_reducible refine below_dr ?_) | (with_reducible refine below_drN ?_) | (with_reducible refine below_set ?_ (by first | exact Nat.le_refl _ | (dsimp only; omega) | omega)) | (with_reducible refine below_tr (by with_reducible assumption) ?_)))
      case measure => simp [intOf]; omega
    · obtain rfl : k = 4 := by omega
      go_wp2
      go_ret
      exact ⟨_, rfl, hO'.out, hb⟩

end Go.Proofs.Ytfkmophmiiehlaa
namespace Go.Proofs.Ytfkmophmiiehlaa
open Go.RowKit
theorem OwnT.weaken {w : World} {B B' : Nat} {v : Value} {ts : List T4} (h : OwnT w B v ts) (hB : B' ≤ B) : OwnT w B' v ts := by
  obtain ⟨h1, h2⟩ := h
  refine ⟨h1, ?_⟩
  rcases h2 with h2 | ⟨g, cap, cur, e1, e2, e3⟩
  · exact .inl h2
  · exact .inr ⟨g, cap, cur, e1, Nat.le_trans hB e2, e3⟩

end Go.Proofs.Ytfkmophmiiehlaa
