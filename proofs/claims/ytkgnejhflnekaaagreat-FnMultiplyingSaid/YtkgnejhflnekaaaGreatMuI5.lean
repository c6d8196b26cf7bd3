/- Contracts and lemmas for the statements of this seat, written for this claim; each theorem states its own conditions. -/
import Derived.Laws.StructEq
import Derived.Lib.SliceRun
import Derived.Laws.CopyRow
import Derived.Test.YtkgnejhflnekaaaGreatMuI1
set_option linter.unusedVariables false
set_option linter.unusedSimpArgs false
namespace Go.Proofs.YtkgnejhflnekaaaGreat
open Go.RowKit
theorem itAppendSeq_c (Bs cap : Nat) (A : Option Addr) (ts : List T4) (hl : ts.length ≤ 1000000000) (w : World) (hBs : Bs < w.heap.size)
    (hc : w.cell? ⟨Bs, 0, none⟩ = some (.slice A ts.length cap)) (hT : TileCells w A ts) :
    Calls Tryz.prog 234 #[.slice none 0 0, .func (.func 233) #[] #[.pointer (some ⟨Bs, 0, none⟩)]] w fun e W' => ∃ v, e = .returned v ∧ OwnT W' w.heap.size v ts ∧ Below w.heap.size w W' :=
  callsIn_wide.1 (itAppendSeq_in Fence.wide 3 trivial trivial rfl (by omega) Bs cap A ts hl w hBs hc hT)
theorem itValues_c (A : Option Addr) (len cap : Nat) (w : World) :
    Calls Tryz.prog 228 #[.slice A len cap] w fun e w' => e = .returned (.func (.func 233) #[] #[.pointer (some ⟨w.heap.size, 0, none⟩)]) ∧ w' = w.alloc (.cells #[.slice A len cap] 24) :=
  callsIn_wide.1 (itValues_in Fence.wide 3 trivial rfl A len cap w)
set_option maxRecDepth 100000 in
set_option maxHeartbeats 1000000 in
theorem itCollect_c (Bs cap : Nat) (A : Option Addr) (ts : List T4) (hl : ts.length ≤ 1000000000) (w : World) (hBs : Bs < w.heap.size)
    (hc : w.cell? ⟨Bs, 0, none⟩ = some (.slice A ts.length cap)) (hT : TileCells w A ts) :
    Calls Tryz.prog 231 #[.func (.func 233) #[] #[.pointer (some ⟨Bs, 0, none⟩)]] w fun e W' => ∃ v, e = .returned v ∧ OwnT W' w.heap.size v ts ∧ Below w.heap.size w W' := by
  have H := Lib.hid (itAppendSeq_c Bs cap A ts hl w hBs hc hT)
  clear hc hT hl
  go_enter Tryz.func231, Tryz.ntmps231
  go_wp2_with fail
  refine H.out.mono ?_
  rintro e w1 ⟨v, rfl, hO, hb⟩
  go_wp2
  go_ret
  exact ⟨v, rfl, hO, hb⟩
set_option maxRecDepth 100000 in
set_option maxHeartbeats 1000000 in
theorem sortedFunc_c (Bs cap : Nat) (A : Option Addr) (ts : List T4) (hl : ts.length ≤ 1000000000) (w : World) (hBs : Bs < w.heap.size)
    (hc : w.cell? ⟨Bs, 0, none⟩ = some (.slice A ts.length cap)) (hT : TileCells w A ts) :
    Calls Tryz.prog 227 #[.func (.func 233) #[] #[.pointer (some ⟨Bs, 0, none⟩)], .func (.func 147) #[] #[]] w fun e W' => ∃ v, e = .returned v ∧ OwnT W' w.heap.size v (sortT ts) ∧ Below w.heap.size w W' := by
  have H := Lib.hid (itCollect_c Bs cap A ts hl w hBs hc hT)
  clear hc hT
  have HL := Lib.hid hl
  clear hl
  go_enter Tryz.func227, Tryz.ntmps227
  go_wp2_with fail
  refine H.out.mono ?_
  rintro e w1 ⟨v, rfl, hO, hb⟩
  have HO := Lib.hid hO
  clear hO
  go_wp2_with fail
  refine (sortFuncO_c ts _ v _ HO.out HL.out).mono ?_
  rintro e w2 ⟨rfl, hO2, hg⟩
  go_wp2
  go_ret
  exact ⟨v, rfl, hO2, hb.grown hg hb.size (fun k hk => (World.ownsRow.lt HO.out k hk).1)⟩
theorem OwnT.weaken {w : World} {B B' : Nat} {v : Value} {ts : List T4} (h : OwnT w B v ts) (hB : B' ≤ B) : OwnT w B' v ts := by
  obtain ⟨h1, h2⟩ := h
  refine ⟨h1, ?_⟩
  rcases h2 with h2 | ⟨g, cap, cur, e1, e2, e3⟩
  · exact .inl h2
  · exact .inr ⟨g, cap, cur, e1, Nat.le_trans hB e2, e3⟩

end Go.Proofs.YtkgnejhflnekaaaGreat
namespace Go.Proofs.YtkgnejhflnekaaaGreat
open Go.RowKit
theorem run_equalIn_tile (s t : T4) (w : World) : (Op.equalIn 10000 127 (.agg #[.int .i64 s.a, .int .i64 s.b, .int .i64 s.c, .int .i64 s.d]) (.agg #[.int .i64 t.a, .int .i64 t.b, .int .i64 t.c, .int .i64 t.d])).run Tryz.prog w = .ok (decide (s = t)) w := by
  rw [show (10000 : Nat) = 9998 + 1 + 1 from rfl, Op.equalIn]
  simp only [Sem.run_bind, run_underlying Tryz.underlying127, Result.andThen_ok]
  have z := fun w => Tryz.sizeOf2 w
  simp only [Sem.run_bind, z, Result.andThen_ok]
  have hi := fun (x y : Int) (w : World) => run_equalIn_int (P := Tryz.prog) w 9998 2 .i64 .i64 x y Tryz.underlying2
  have ha := fun w => Tryz.isAgg2 w
  rw [show (forIn [:4] : (Option Bool × Unit) → (Nat → (Option Bool × Unit) → Sem (ForInStep (Option Bool × Unit))) → Sem (Option Bool × Unit)) = forIn [0, 1, 2, 3] from by funext a f; simp [Std.Legacy.Range.forIn_eq_forIn_range', List.range']]
  simp only [List.forIn_cons, List.forIn_nil, Sem.run_bind]
  go_simp
  obtain ⟨a, b, c, d⟩ := s
  obtain ⟨a', b', c', d'⟩ := t
  by_cases h0 : a = a' <;> by_cases h1 : b = b' <;> by_cases h2 : c = c' <;> by_cases h3 : d = d' <;> simp [h0, h1, h2, h3]
theorem eql_tile (s t : T4) (w : World) : (binOp .eql 127 (.agg #[.int .i64 s.a, .int .i64 s.b, .int .i64 s.c, .int .i64 s.d]) (.agg #[.int .i64 t.a, .int .i64 t.b, .int .i64 t.c, .int .i64 t.d])).run Tryz.prog w = .ok (.bool (decide (s = t))) w := by
  rw [run_eql_struct, run_equalIn_tile]
  rfl
theorem neq_tile (s t : T4) (w : World) : (binOp .neq 127 (.agg #[.int .i64 s.a, .int .i64 s.b, .int .i64 s.c, .int .i64 s.d]) (.agg #[.int .i64 t.a, .int .i64 t.b, .int .i64 t.c, .int .i64 t.d])).run Tryz.prog w = .ok (.bool (!decide (s = t))) w := by
  rw [run_neq_struct, run_equalIn_tile]
  rfl
theorem guard_tile (op : BinOp) (x y : Operand) (s t : T4) (w : World) : (eqGuard op 127 x y (.agg #[.int .i64 s.a, .int .i64 s.b, .int .i64 s.c, .int .i64 s.d]) (.agg #[.int .i64 t.a, .int .i64 t.b, .int .i64 t.c, .int .i64 t.d])).run Tryz.prog w = .ok () w :=
  run_eqGuard_agg w op 127 x y _ _ (by kernel_rfl)
def ddp : T4 → List T4 → List T4
  | _, [] => []
  | p, x :: xs => if x = p then ddp p xs else x :: ddp x xs
/-- without neighbours that are equal -/
def ddT : List T4 → List T4
  | [] => []
  | x :: xs => x :: ddp x xs
theorem ddp_snoc (x : T4) : ∀ (xs : List T4) (p : T4), ddp p (xs ++ [x]) = if x = xs.getLastD p then ddp p xs else ddp p xs ++ [x]
  | [], p => by by_cases h : x = p <;> simp [ddp, h]
  | y :: ys, p => by
    rw [List.cons_append, List.getLastD_cons]
    unfold ddp
    by_cases h : y = p
    · rw [if_pos h, if_pos h, ddp_snoc x ys p, h]
    · rw [if_neg h, if_neg h, ddp_snoc x ys y]
      by_cases h2 : x = ys.getLastD y
      · rw [if_pos h2, if_pos h2]
      · rw [if_neg h2, if_neg h2]; rfl
theorem ddT_snoc (xs : List T4) (k : Nat) (hk : k + 1 < xs.length) : ddT (xs.take (k + 2)) = if xs[k + 1] = xs[k] then ddT (xs.take (k + 1)) else ddT (xs.take (k + 1)) ++ [xs[k + 1]] := by
  rw [List.take_succ_eq_append_getElem hk]
  generalize xs[k + 1] = x
  have hl : (xs.take (k + 1)).getLast? = some xs[k] := by
    rw [List.getLast?_eq_getElem?, List.length_take, Nat.min_eq_left (by omega), Nat.add_sub_cancel, List.getElem?_take_of_lt (by omega), List.getElem?_eq_getElem (by omega)]
  cases h : xs.take (k + 1) with
  | nil => rw [h] at hl; cases hl
  | cons y ys =>
    rw [h] at hl
    rw [List.getLast?_cons, Option.some.injEq] at hl
    rw [List.cons_append]
    show y :: ddp y (ys ++ [x]) = if x = xs[k] then y :: ddp y ys else (y :: ddp y ys) ++ [x]
    rw [ddp_snoc, ← hl]
    have e : ys.getLastD y = ys.getLast?.getD y := by rw [List.getLastD_eq_getLast?]
    rw [e]
    split <;> rfl
theorem gb_tr {a b c : World} {row : Option Nat} (h : a.grownBy b row) (k : b.grownBy c row) : a.grownBy c row :=
  ⟨k.os.trans h.os, k.tape.trans h.tape, k.output.trans h.output, Nat.le_trans h.size k.size, fun j hj hne => (k.block j (Nat.lt_of_lt_of_le hj h.size) hne).trans (h.block j hj hne)⟩
theorem gb_rf (a : World) (row : Option Nat) : a.grownBy a row := ⟨rfl, rfl, rfl, Nat.le_refl _, fun _ _ _ => rfl⟩
theorem gb_bl {a b : World} {row : Option Nat} (h : Below a.heap.size a b) : a.grownBy b row := ⟨h.os, h.tape, h.output, h.size, fun k hk _ => h.block k hk⟩
theorem OwnT.tile {w : World} {B g n cap : Nat} {L : List T4} (h : OwnT w B (.slice (some ⟨g, 0, none⟩) n cap) L) (k : Nat) (hk : k < L.length) :
    w.cell? ⟨g, k * 4, none⟩ = some (.int .i64 L[k].a) ∧ w.cell? ⟨g, k * 4 + 1, none⟩ = some (.int .i64 L[k].b) ∧ w.cell? ⟨g, k * 4 + 2, none⟩ = some (.int .i64 L[k].c) ∧ w.cell? ⟨g, k * 4 + 3, none⟩ = some (.int .i64 L[k].d) := by
  obtain ⟨A, cx, e, hT⟩ := h.tiles
  injection e with a1 a2 a3
  have := hT.pair a1.symm k hk
  simpa using this
theorem OwnT.setT {w : World} {B g n cap : Nat} {L : List T4} (h : OwnT w B (.slice (some ⟨g, 0, none⟩) n cap) L) (k : Nat) (hk : k < L.length) (t : T4) :
    OwnT ((((w.setCell ⟨g, k * 4, none⟩ (.int .i64 t.a)).setCell ⟨g, k * 4 + 1, none⟩ (.int .i64 t.b)).setCell ⟨g, k * 4 + 2, none⟩ (.int .i64 t.c)).setCell ⟨g, k * 4 + 3, none⟩ (.int .i64 t.d)) B (.slice (some ⟨g, 0, none⟩) n cap) (L.set k t) ∧
    w.grownBy ((((w.setCell ⟨g, k * 4, none⟩ (.int .i64 t.a)).setCell ⟨g, k * 4 + 1, none⟩ (.int .i64 t.b)).setCell ⟨g, k * 4 + 2, none⟩ (.int .i64 t.c)).setCell ⟨g, k * 4 + 3, none⟩ (.int .i64 t.d)) (some g) := by
  have hn : n = L.length := by obtain ⟨A, cx, e, hT⟩ := h.tiles; injection e
  subst hn
  obtain ⟨s1, t1⟩ := World.ownsRow.stored h (k * 4) (.int .i64 t.a)
  obtain ⟨s2, t2⟩ := World.ownsRow.stored s1 (k * 4 + 1) (.int .i64 t.b)
  obtain ⟨s3, t3⟩ := World.ownsRow.stored s2 (k * 4 + 2) (.int .i64 t.c)
  obtain ⟨s4, t4⟩ := World.ownsRow.stored s3 (k * 4 + 3) (.int .i64 t.d)
  rw [tcells_set L k hk t] at s4
  refine ⟨?_, gb_tr (gb_tr (gb_tr t1 t2) t3) t4⟩
  unfold OwnT
  rw [List.length_set]
  exact s4
theorem OwnT.frz {w : World} {B g n cap : Nat} {L : List T4} (h : OwnT w B (.slice (some ⟨g, 0, none⟩) n cap) L) (j : Nat) : w.frozen? ⟨g, j, none⟩ = false := by
  obtain ⟨h1, ⟨h2, _⟩ | ⟨g', cap', cur, e, hB, hb, _⟩⟩ := h
  · cases h2
  · injection e with a1
    injection a1 with a1
    injection a1 with a1
    subst a1
    simp [World.frozen?, hb]
theorem tcells_take (L : List T4) (k : Nat) : (tcells L).take (k * 4) = tcells (L.take k) := by
  induction L generalizing k with
  | nil => simp [tcells]
  | cons t ts ih =>
    cases k with
    | zero => simp [tcells]
    | succ k => rw [List.take_succ_cons, tcells_cons, tcells_cons, ← ih, show (k + 1) * 4 = k * 4 + 1 + 1 + 1 + 1 by omega]; simp
theorem clear_T {w : World} {B g n cap : Nat} {L : List T4} (h : OwnT w B (.slice (some ⟨g, 0, none⟩) n cap) L) (k : Nat) (hk : k < n) :
    ∃ W', (∀ ty, (Builtin.clear_ #[24] ty #[.slice (some ⟨g, k * 4, none⟩) (n - k) (cap - k)]).run Tryz.prog w = .ok (.tuple #[]) W') ∧ OwnT W' B (.slice (some ⟨g, 0, none⟩) k cap) (L.take k) ∧ w.grownBy W' (some g) := by
  have hn : n = L.length := by obtain ⟨A, cx, e, hT⟩ := h.tiles; injection e
  subst hn
  obtain ⟨g', cap', cur, e, hB, hb, h1, h2, h3, h4⟩ := h.parts (by omega)
  injection e with a1 a2 a3
  injection a1 with a1
  injection a1 with a1
  subst a1 a3
  obtain ⟨Z, hZ⟩ : ∃ Z, Z = (Builtin.zeroCells (Value.cells (.agg #[.int .i64 0, .int .i64 0, .int .i64 0, .int .i64 0])) (L.length - k)).toList := ⟨_, rfl⟩
  have hZl : Z.length = (L.length - k) * 4 := by rw [hZ, Array.length_toList, size_zeroCells]; rfl
  have hZ1 : ∀ v ∈ Z, v.oneCell' = true := by
    intro v hv
    rw [hZ] at hv
    simp only [Builtin.zeroCells, Array.toList_map, List.mem_map] at hv
    obtain ⟨i, _, rfl⟩ := hv
    have hi : i % 4 < 4 := Nat.mod_lt _ (by omega)
    have : i % 4 = 0 ∨ i % 4 = 1 ∨ i % 4 = 2 ∨ i % 4 = 3 := by omega
    show ((#[Value.int .i64 0, .int .i64 0, .int .i64 0, .int .i64 0] : Array Value)[i % 4]!).oneCell' = true
    rcases this with e | e | e | e <;> rw [e] <;> rfl
  have hst := run_storeCells_at Tryz.prog g (k * 4) 127 Z 0 cur w hb (by rw [hZl, h3]; omega) hZ1
  simp only [Nat.add_zero] at hst
  refine ⟨w.setRow g (cur.toList.take (k * 4) ++ Z ++ cur.toList.drop (k * 4 + Z.length)).toArray, fun ty => ?_, ?_, ?_⟩
  rotate_left
  · refine ⟨(tcells_length _).trans (by rw [List.length_take, Nat.min_eq_left (by omega)]), .inr ⟨g, cap, _, by rw [List.length_take, Nat.min_eq_left (by omega)], hB, setRow_heap w g cur _ _ _ hb, by rw [List.length_take]; omega, h2, ?_, ?_⟩⟩
    rotate_left
    · rw [List.length_take, Nat.min_eq_left (by omega), List.append_assoc, List.take_left' (by rw [List.length_take, Array.length_toList, h3]; omega), ← tcells_take, ← h4, List.take_take, Nat.min_eq_left (by omega)]
    · simp [hZl, h3]; omega
  · exact ⟨rfl, rfl, rfl, by simp, fun j _ hj => setRow_other _ _ _ _ (fun e => hj (by rw [e]))⟩
  · obtain ⟨m, hm⟩ : ∃ m, L.length - k = m + 1 := ⟨L.length - k - 1, by omega⟩
    have hv := fun w => Tryz.zeroValue127 w
    rw [hm] at hZ ⊢
    simp [Builtin.clear_, run_underlying Tryz.underlying24, hv, ← hZ, hst]
set_option maxRecDepth 100000 in
set_option maxHeartbeats 1000000 in
theorem compact_c (ts : List T4) (B g cap : Nat) (w : World) (hO : OwnT w B (.slice (some ⟨g, 0, none⟩) ts.length cap) ts) (hl : ts.length ≤ 1000000000) :
    Calls Tryz.prog 229 #[.slice (some ⟨g, 0, none⟩) ts.length cap] w fun e w' =>
      ∃ n, e = .returned (.slice (some ⟨g, 0, none⟩) n cap) ∧ OwnT w' B (.slice (some ⟨g, 0, none⟩) n cap) (ddT ts) ∧ w.grownBy w' (some g) := by
  have HO := Lib.hid hO
  clear hO
  have heq := eql_tile
  have hnq := neq_tile
  have hgd := guard_tile
  by_cases h2 : ts.length < 2
  · go_enter Tryz.func229, Tryz.ntmps229
    go_wp2
    go_ret
    refine ⟨_, rfl, ?_, gb_rf _ _⟩
    have : ddT ts = ts := by
      match ts, h2 with
      | [], _ => rfl
      | [x], _ => rfl
      | _ :: _ :: _, h => exfalso; simp only [List.length_cons] at h; omega
    rw [this]
    exact HO.out
  · go_enter Tryz.func229, Tryz.ntmps229
    go_wp2
    go_loopw [3] (fun i wr => ∃ m : Nat, m + 1 ≤ ts.length ∧ i = .int .i64 ((m : Int) + 1) ∧ Hid (ddT (ts.take (m + 1)) = ts.take (m + 1)) ∧ Hid (OwnT wr B (.slice (some ⟨g, 0, none⟩) ts.length cap) ts) ∧ Hid (w.grownBy wr (some g))) (fun i _ => ts.length - (intOf i).toNat)
    case atStart => exact ⟨0, by omega, rfl, by
      cases ts with
      | nil => simp at h2
      | cons x xs => rfl, HO.out, gb_rf _ _⟩
    case round =>
      obtain ⟨m, hm, rfl, HD, HO', HG⟩ := hrel
      by_cases h1 : m + 1 < ts.length
      · obtain ⟨c0, c1, c2, c3⟩ := HO'.out.tile m (by omega)
        obtain ⟨d0, d1, d2, d3⟩ := HO'.out.tile (m + 1) h1
        have HS := Lib.hid (ddT_snoc ts m h1)
        generalize hx : ts[m] = x at *
        generalize hy : ts[m + 1] = y at *
        have Hx := Lib.hid hx
        have Hy := Lib.hid hy
        clear hx hy
        have hcap := Lib.hid (show ts.length ≤ cap by
          obtain ⟨g', cap', cur, e, _, _, h3, _⟩ := HO'.out.parts (by omega)
          injection e with a1 a2 a3
          omega)
        by_cases hxy : y = x
        · have hxyd : decide (y = x) = true := by simp [hxy]
          have hk0 : m + 1 ≤ ts.length := hm
          have hc0 : m + 1 ≤ cap := by have := hcap.out; omega
          go_wp2_with fail
          go_quiet (fail)
          obtain ⟨wa, hwa⟩ : ∃ wa, wr.drewN nq = wa := ⟨_, rfl⟩
          have HA := Lib.hid (show OwnT wa B (.slice (some ⟨g, 0, none⟩) ts.length cap) ts by rw [← hwa]; exact HO'.out)
          have HGA := Lib.hid (show w.grownBy wa (some g) by rw [← hwa]; exact ⟨HG.out.os, HG.out.tape, HG.out.output, HG.out.size, HG.out.block⟩)
          rw [hwa]
          clear hwa c0 c1 c2 c3 d0 d1 d2 d3 HO' HG
          have HD2 := Lib.hid (show ddT (ts.take (m + 2)) = ts.take (m + 1) by rw [HS.out, if_pos hxy]; exact HD.out)
          clear hxyd
          obtain ⟨w0, rfl⟩ : ∃ w0, w0 = wr := ⟨wr, rfl⟩
          go_wp2
          any_goals (exfalso; have := hcap.out; omega)
          clear h
          go_loopw [3, 5] (fun vk vq wi => ∃ (q k : Nat) (L : List T4), m + 1 + (q + 1) ≤ ts.length ∧ vk = .int .i64 k ∧ vq = .int .i64 ((q : Int) + 1) ∧ k ≤ m + 1 + q ∧ Hid (OwnT wi B (.slice (some ⟨g, 0, none⟩) ts.length cap) L) ∧ Hid (L.take k = ddT (ts.take (m + q + 2))) ∧ Hid (L.length = ts.length) ∧ Hid (∀ j, m + 1 + q ≤ j → L[j]? = ts[j]?) ∧ Hid (w.grownBy wi (some g))) (fun _ vq _ => ts.length - (intOf vq).toNat)
          case atStart => exact ⟨0, m + 1, ts, by omega, by go_num, by go_num, by omega, HA.out, HD2.out.symm, rfl, fun _ _ => rfl, HGA.out⟩
          case round =>
            obtain ⟨q, k, L, hq, rfl, rfl, hkq, HO1, HT1, HL1, HJ1, HG1⟩ := hrel
            by_cases h3 : m + 1 + (q + 1) < ts.length
            · have p1 : m + q + 1 < ts.length := by omega
              have p2 : m + q + 1 + 1 < ts.length := by omega
              have hLl := HL1.out
              obtain ⟨c0, c1, c2, c3⟩ := HO1.out.tile (m + 1 + q) (by omega)
              obtain ⟨d0, d1, d2, d3⟩ := HO1.out.tile (m + 1 + (q + 1)) (by omega)
              have hx' : L[m + 1 + q]'(by omega) = ts[m + q + 1]'p1 := by
                have := HJ1.out (m + 1 + q) (by omega)
                rw [List.getElem?_eq_getElem (by omega), List.getElem?_eq_getElem (by omega), Option.some.injEq] at this
                rw [this]; congr 1; omega
              have hy' : L[m + 1 + (q + 1)]'(by omega) = ts[m + q + 1 + 1]'p2 := by
                have := HJ1.out (m + 1 + (q + 1)) (by omega)
                rw [List.getElem?_eq_getElem (by omega), List.getElem?_eq_getElem (by omega), Option.some.injEq] at this
                rw [this]; congr 1; omega
              have HS1 := Lib.hid (ddT_snoc ts (m + q + 1) p2)
              rw [hx'] at c0 c1 c2 c3
              rw [hy'] at d0 d1 d2 d3
              rw [Nat.add_mul] at c0 c1 c2 c3 d0 d1 d2 d3
              clear hx' hy' hLl
              generalize hx : ts[m + q + 1] = x1 at *
              generalize hy : ts[m + q + 1 + 1] = y1 at *
              have Hx1 := Lib.hid hx
              have Hy1 := Lib.hid hy
              clear hx hy
              by_cases hxy1 : y1 = x1
              · have hxyd : decide (y1 = x1) = true := by simp [hxy1]
                go_wp2_with fail
                go_quiet (fail)
                have HG2 := Lib.hid (show w.grownBy (wr.drewN nq) (some g) from ⟨HG1.out.os, HG1.out.tape, HG1.out.output, HG1.out.size, HG1.out.block⟩)
                have HO2 := Lib.hid (show OwnT (wr.drewN nq) B (.slice (some ⟨g, 0, none⟩) ts.length cap) L from HO1.out)
                have HT2 := Lib.hid (show L.take k = ddT (ts.take (m + (q + 1) + 2)) from HT1.out.trans (by have := HS1.out; rw [if_pos hxy1] at this; exact this.symm))
                go_wp2
                go_roundw
                case rel => exact ⟨q + 1, k, L, by omega, rfl, by go_num, by omega, HO2.out, HT2.out, HL1.out, fun j hj => HJ1.out j (by omega), HG2.out⟩
                case measure => simp [intOf]; omega
              · have hxyd : decide (y1 = x1) = false := by simp [hxy1]
                obtain ⟨e0, e1, e2, e3⟩ := HO1.out.tile k (by have := HL1.out; omega)
                have f0 := HO1.out.frz (k * 4)
                have f1 := HO1.out.frz (k * 4 + 1)
                have f2 := HO1.out.frz (k * 4 + 2)
                have f3 := HO1.out.frz (k * 4 + 3)
                have hkl : k < ts.length := by omega
                generalize L[k]'(by have := HL1.out; omega) = z at e0 e1 e2 e3
                go_wp2_with fail
                go_quiet (fail)
                have HOG := Lib.hid ((show OwnT (wr.drewN nq) B (.slice (some ⟨g, 0, none⟩) ts.length cap) L from HO1.out).setT k (by have := HL1.out; omega) y1)
                have HG2 := Lib.hid (show w.grownBy (wr.drewN nq) (some g) from ⟨HG1.out.os, HG1.out.tape, HG1.out.output, HG1.out.size, HG1.out.block⟩)
                have HT2 := Lib.hid (show (L.set k y1).take (k + 1) = ddT (ts.take (m + (q + 1) + 2)) by
                  have h := HS1.out
                  rw [if_neg hxy1] at h
                  refine Eq.trans ?_ h.symm
                  have h' : L.take k = ddT (ts.take (m + q + 1 + 1)) := HT1.out
                  rw [← h', List.take_succ_eq_append_getElem (by rw [List.length_set, HL1.out]; exact hkl), List.getElem_set_self, List.take_set_of_le (Nat.le_refl _)])
                go_wp2
                go_roundw
                case rel => exact ⟨q + 1, k + 1, L.set k y1, by omega, by go_num, by go_num, by omega, HOG.out.1, HT2.out, (by rw [List.length_set]; exact HL1.out), (fun j hj => by rw [List.getElem?_set_ne (by omega)]; exact HJ1.out j (by omega)), gb_tr HG2.out HOG.out.2⟩
                case measure => simp [intOf]; omega
            · have hq2 : m + 1 + (q + 1) = ts.length := by omega
              obtain ⟨W', hcl, hO2, hG2⟩ := clear_T HO1.out k (by omega)
              have HO2 := Lib.hid hO2
              have HG2 := Lib.hid hG2
              have hkc : k ≤ cap := by have := hcap.out; omega
              have hkl : k ≤ ts.length := by omega
              have HE := Lib.hid hq2
              clear hO2 hG2 hq2
              go_wp2
              any_goals (exfalso; have := hcap.out; have := HE.out; omega)
              go_ret
              refine ⟨_, rfl, ?_, gb_tr HG1.out HG2.out⟩
              have e : L.take k = ddT ts := by
                have h := HT1.out
                rw [show m + q + 2 = ts.length by have := HE.out; omega, List.take_length] at h
                exact h
              rw [← e]
              exact HO2.out
        · have hxyd : decide (y = x) = false := by simp [hxy]
          go_wp2_with fail
          go_quiet (fail)
          have HN := Lib.hid (show ddT (ts.take (m + 2)) = ts.take (m + 2) by
            rw [HS.out, if_neg hxy, HD.out, List.take_succ_eq_append_getElem (show m + 1 < ts.length from h1), Hy.out])
          have HA := Lib.hid (show OwnT (wr.drewN nq) B (.slice (some ⟨g, 0, none⟩) ts.length cap) ts from HO'.out)
          have HGA := Lib.hid (show w.grownBy (wr.drewN nq) (some g) from ⟨HG.out.os, HG.out.tape, HG.out.output, HG.out.size, HG.out.block⟩)
          go_wp2
          go_roundw
          case rel => exact ⟨m + 1, by omega, by go_num, HN.out, HA.out, HGA.out⟩
          case measure => simp [intOf]; omega
      · have HE := Lib.hid (show m + 1 = ts.length by omega)
        go_wp2
        go_ret
        refine ⟨_, rfl, ?_, HG.out⟩
        have : ddT ts = ts := by
          have := HD.out
          rw [HE.out, List.take_length] at this
          exact this
        rw [this]
        exact HO'.out
set_option maxRecDepth 100000 in
set_option maxHeartbeats 1000000 in
theorem compact0_c (A : Option Addr) (cx : Nat) (w : World) :
    Calls Tryz.prog 229 #[.slice A 0 cx] w fun e w' => e = .returned (.slice A 0 cx) ∧ w = w' := by
  go_enter Tryz.func229, Tryz.ntmps229
  go_wp2
  go_ret
  exact ⟨rfl, rfl⟩
theorem compactO_c (ts : List T4) (B : Nat) (v : Value) (w : World) (hO : OwnT w B v ts) (hl : ts.length ≤ 1000000000) :
    Calls Tryz.prog 229 #[v] w fun e w' =>
      ∃ A cx, e = .returned (.slice A (ddT ts).length cx) ∧ OwnT w' B (.slice A (ddT ts).length cx) (ddT ts) ∧ w.grownBy w' v.ownBlock := by
  by_cases h0 : 0 < ts.length
  · obtain ⟨g, cap, cur, rfl, hB, hb, h1, h2, h3, h4⟩ := hO.parts h0
    refine (compact_c ts B g cap w hO hl).mono ?_
    rintro e w' ⟨n, rfl, hO2, hg⟩
    have hn : n = (ddT ts).length := by obtain ⟨A, cx, e, hT⟩ := hO2.tiles; injection e
    subst hn
    exact ⟨_, _, rfl, hO2, hg⟩
  · obtain rfl : ts = [] := List.length_eq_zero_iff.1 (by omega)
    obtain ⟨A, cx, rfl, _⟩ := hO.tiles
    refine (compact0_c A cx w).mono ?_
    rintro e w' ⟨rfl, rfl⟩
    exact ⟨A, cx, rfl, hO, gb_rf _ _⟩

end Go.Proofs.YtkgnejhflnekaaaGreat
namespace Go.Proofs.YtkgnejhflnekaaaGreat
open Go.RowKit
theorem len_le_of_mem : ∀ (D E : List T4), D.Nodup → (∀ x ∈ D, x ∈ E) → D.length ≤ E.length
  | [], _, _, _ => Nat.zero_le _
  | d :: D, E, hn, h => by
    have hd : d ∈ E := h d (by simp)
    obtain ⟨h1, h2⟩ := List.nodup_cons.1 hn
    have := len_le_of_mem D (E.erase d) h2 (fun x hx => by
      have hne : x ≠ d := fun e => h1 (by rw [← e]; exact hx)
      exact (List.mem_erase_of_ne hne).2 (h x (by simp [hx])))
    have hl := List.length_erase_of_mem hd
    have h0 : 0 < E.length := List.length_pos_of_mem hd
    simp only [List.length_cons]
    omega
theorem len_eq_of_mem (D E : List T4) (h1 : D.Nodup) (h2 : E.Nodup) (h : ∀ x, x ∈ D ↔ x ∈ E) : D.length = E.length :=
  Nat.le_antisymm (len_le_of_mem D E h1 (fun x => (h x).1)) (len_le_of_mem E D h2 (fun x => (h x).2))
theorem ltT_of_ne {x y : T4} (h : ltT y x = false) (hne : y ≠ x) : ltT x y = true := by
  cases h2 : ltT x y
  · exact absurd (ltT_anti y x h h2) hne
  · rfl
theorem ddp_spec : ∀ (xs : List T4) (p : T4), (p :: xs).Pairwise (fun x y => ltT y x = false) →
    (ddp p xs).Pairwise (fun x y => ltT x y = true) ∧ (∀ x, x ∈ ddp p xs ↔ x ∈ xs ∧ x ≠ p) ∧ (∀ x ∈ ddp p xs, ltT p x = true)
  | [], p, _ => by simp [ddp]
  | y :: ys, p, h => by
    rw [List.pairwise_cons, List.pairwise_cons] at h
    obtain ⟨h1, h2, h3⟩ := h
    have hy := h1 y (by simp)
    unfold ddp
    by_cases e : y = p
    · rw [if_pos e]
      obtain ⟨i1, i2, i3⟩ := ddp_spec ys p (List.pairwise_cons.2 ⟨fun z hz => h1 z (by simp [hz]), h3⟩)
      refine ⟨i1, fun x => ?_, i3⟩
      rw [i2]
      constructor
      · rintro ⟨a, b⟩; exact ⟨by simp [a], b⟩
      · rintro ⟨a, b⟩
        rcases List.mem_cons.1 a with rfl | a
        · exact absurd e b
        · exact ⟨a, b⟩
    · rw [if_neg e]
      obtain ⟨i1, i2, i3⟩ := ddp_spec ys y (List.pairwise_cons.2 ⟨h2, h3⟩)
      have hpy : ltT p y = true := ltT_of_ne hy e
      refine ⟨List.pairwise_cons.2 ⟨i3, i1⟩, fun x => ?_, ?_⟩
      · rw [List.mem_cons, List.mem_cons, i2]
        constructor
        · rintro (rfl | ⟨a, b⟩)
          · exact ⟨.inl rfl, e⟩
          · refine ⟨.inr a, fun e' => ?_⟩
            subst e'
            have := h2 x a
            rw [hpy] at this
            cases this
        · rintro ⟨a, b⟩
          rcases a with rfl | a
          · exact .inl rfl
          · by_cases e2 : x = y
            · exact .inl e2
            · exact .inr ⟨a, e2⟩
      · intro x hx
        rcases List.mem_cons.1 hx with rfl | hx
        · exact hpy
        · exact ltT_swo.trans _ _ _ hpy (i3 x hx)
theorem ddT_spec (ss : List T4) (h : ss.Pairwise (fun x y => ltT y x = false)) : (ddT ss).Pairwise (fun x y => ltT x y = true) ∧ ∀ x, x ∈ ddT ss ↔ x ∈ ss := by
  cases ss with
  | nil => simp [ddT]
  | cons p xs =>
    obtain ⟨i1, i2, i3⟩ := ddp_spec xs p h
    refine ⟨List.pairwise_cons.2 ⟨i3, i1⟩, fun x => ?_⟩
    show x ∈ p :: ddp p xs ↔ _
    rw [List.mem_cons, List.mem_cons, i2]
    constructor
    · rintro (a | ⟨a, b⟩)
      · exact .inl a
      · exact .inr a
    · rintro (a | a)
      · exact .inl a
      · by_cases e : x = p
        · exact .inl e
        · exact .inr ⟨a, e⟩
/-- the different tiles of a list, by their order -/
def setT (ts : List T4) : List T4 := ddT (sortT ts)
theorem setT_mem (ts : List T4) (x : T4) : x ∈ setT ts ↔ x ∈ ts := ((ddT_spec _ (sortT_sorted ts)).2 x).trans (sortT_perm ts).mem_iff
theorem setT_asc (ts : List T4) : (setT ts).Pairwise (fun x y => ltT x y = true) := (ddT_spec _ (sortT_sorted ts)).1
theorem setT_nodup (ts : List T4) : (setT ts).Nodup := (setT_asc ts).imp (fun h e => by rw [e, ltT_swo.irrefl] at h; cases h)
end Go.Proofs.YtkgnejhflnekaaaGreat
