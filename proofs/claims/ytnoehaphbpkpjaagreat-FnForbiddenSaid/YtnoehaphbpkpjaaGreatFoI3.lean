/- Contracts and lemmas for the statements of this seat, written for this claim; each theorem states its own conditions. -/
import Derived.Laws.IdiomCopy
import Derived.Laws.StructEq
import Derived.Lib.SliceRun
import Derived.Laws.CopyRow
import Derived.Test.YtnoehaphbpkpjaaGreatFoF2
import Derived.Test.YtnoehaphbpkpjaaGreatFoL1
import Derived.Test.YtnoehaphbpkpjaaGreatFoSe
import Derived.Test.YtnoehaphbpkpjaaGreatFoBk
set_option linter.unusedVariables false
set_option linter.unusedSimpArgs false
namespace Go.Proofs.YtnoehaphbpkpjaaGreat
open Go.RowKit
def idxT (p : T4 → Bool) (l : List T4) : Int := match l.findIdx? p with | some i => (i : Int) | none => -1
theorem idxT_none {p : T4 → Bool} {xs : List T4} (h : ∀ j (h : j < xs.length), p xs[j] = false) : idxT p xs = -1 := by
  have : xs.findIdx? p = none := by
    rw [List.findIdx?_eq_none_iff]
    intro x hx
    obtain ⟨j, hj, rfl⟩ := List.getElem_of_mem hx
    exact h j hj
  simp [idxT, this]
theorem idxT_some {p : T4 → Bool} {xs : List T4} {i : Nat} (hi : i < xs.length) (h : ∀ j (h : j < xs.length), j < i → p xs[j] = false) (hp : p xs[i] = true) : idxT p xs = i := by
  have : xs.findIdx? p = some i := by
    rw [List.findIdx?_eq_some_iff_getElem]
    exact ⟨hi, hp, fun j hj => by simp [h j (by omega) hj]⟩
  simp [idxT, this]
def PredT (w : World) (k : FuncId) (caps : Array Value) (p : T4 → Bool) (xs : List T4) : Prop :=
  ∀ x ∈ xs, ∀ w1, Below w.heap.size w w1 → Calls Tryz.prog k (#[.agg #[.int .i64 x.a, .int .i64 x.b, .int .i64 x.c, .int .i64 x.d]] ++ caps) w1 fun e w' => e = .returned (.bool (p x)) ∧ Below w1.heap.size w1 w'
end Go.Proofs.YtnoehaphbpkpjaaGreat
namespace Go.Proofs.YtnoehaphbpkpjaaGreat
open Go.RowKit
def turnT (t : T4) : T4 := ⟨t.d, t.a, t.b, t.c⟩
theorem wpl_app_tile {ops : Array Oper} {rest : List Oper} {o : Oper} {a : Act} {W : World} {Q : Exit → Act → World → Prop} (hgd : o.guard = none) (s x : Operand)
    (ho : o.op = .call { callee := .builtin .append, args := #[s, x], argTypes := #[28, 28] }) (B : Nat) (v : Value) (ts : List T4) (t : T4) (hs : a.eval s = v) (hown : OwnT W B v ts)
    (b : Nat) (hx : a.eval x = .slice (some ⟨b, 0, none⟩) 1 1) (hc : Blk W b [.int .i64 t.a, .int .i64 t.b, .int .i64 t.c, .int .i64 t.d] 30) (hl : ts.length ≤ 1000000000) (hB : B ≤ W.heap.size)
    (h : ∀ v' w', OwnT w' B v' (ts ++ [t]) → W.grownBy w' v.ownBlock → wpList Tryz.prog ops Q rest (a.put o.dst v') w') : wpList Tryz.prog ops Q (o :: rest) a W := by
  obtain ⟨i0, hi, hz0, hz1, hz2⟩ := info_parts infoTile2
  refine wpList_append_own W hgd s x 28 ho B 30 i0 (.agg #[.int .i64 0, .int .i64 0, .int .i64 0, .int .i64 0]) 4 32 Tryz.underlying28 hi hz0 hz1 hz2 rfl (by decide) v ts.length (tcells ts) hs hown ⟨b, 0, none⟩ 1 1 [.int .i64 t.a, .int .i64 t.b, .int .i64 t.c, .int .i64 t.d] hx rfl ?_ (by simp [Value.oneCell']) (by simp [maxLen]; omega) (by omega) hB ?_
  · intro j u hj
    have := hc.cell? j
    rw [hj] at this
    cases j with
    | zero => simpa [Addr.add] using this
    | succ j => simpa [Addr.add] using this
  · intro v' w' h1 h2 _
    refine h v' w' ?_ h2
    unfold OwnT
    rw [tcells_snoc, List.length_append]
    exact h1
def turnN (t : T4) : Nat → T4
  | 0 => t
  | n + 1 => turnT (turnN t n)
def turnsL (t : T4) (k : Nat) : List T4 := (List.range k).map (turnN t)
theorem turnsL_succ (t : T4) (k : Nat) : turnsL t (k + 1) = turnsL t k ++ [turnN t k] := by simp [turnsL, List.range_succ]
theorem turnsL_length (t : T4) (k : Nat) : (turnsL t k).length = k := by simp [turnsL]
theorem OwnT.empty (w : World) (B : Nat) (hB : B ≤ w.heap.size) : OwnT (w.alloc (.cells #[] 30)) B (.slice (some ⟨w.heap.size, 0, none⟩) 0 0) [] :=
  World.ownsRow_lit (base := B) (e := 30) (size := 4) w #[] 0 hB (by decide) rfl
theorem OwnT.alloc {w : World} {B : Nat} {v : Value} {ts : List T4} (h : OwnT w B v ts) (o : Obj) : OwnT (w.alloc o) B v ts := World.ownsRow.alloc h o
theorem OwnT.other {w : World} {B : Nat} {v : Value} {ts : List T4} (h : OwnT w B v ts) (b k : Nat) (hb : b < B) (u : Value) : OwnT (w.setCell ⟨b, k, none⟩ u) B v ts := by
  refine World.ownsRow.kept (row := some b) h ⟨rfl, rfl, rfl, (KeepsWalks.setCell w _ u).size, fun j _ hj => Below.heap_setCell _ _ _ j (fun e => hj (by rw [e]))⟩ ?_
  obtain ⟨h1, ⟨rfl, h2⟩ | ⟨g, cap, cur, rfl, e2, e3⟩⟩ := h
  · exact .inl rfl
  · refine .inr (fun e => ?_)
    have e' : g = b := Option.some.inj e
    omega
end Go.Proofs.YtnoehaphbpkpjaaGreat
namespace Go.Proofs.YtnoehaphbpkpjaaGreat
open Go.RowKit
theorem OwnT.weaken {w : World} {B B' : Nat} {v : Value} {ts : List T4} (h : OwnT w B v ts) (hB : B' ≤ B) : OwnT w B' v ts := by
  obtain ⟨h1, h2⟩ := h
  refine ⟨h1, ?_⟩
  rcases h2 with h2 | ⟨g, cap, cur, e1, e2, e3⟩
  · exact .inl h2
  · exact .inr ⟨g, cap, cur, e1, Nat.le_trans hB e2, e3⟩

end Go.Proofs.YtnoehaphbpkpjaaGreat
namespace Go.Proofs.YtnoehaphbpkpjaaGreat
open Go.RowKit
theorem run_equalIn_tile (s t : T4) (w : World) : (Op.equalIn 10000 30 (.agg #[.int .i64 s.a, .int .i64 s.b, .int .i64 s.c, .int .i64 s.d]) (.agg #[.int .i64 t.a, .int .i64 t.b, .int .i64 t.c, .int .i64 t.d])).run Tryz.prog w = .ok (decide (s = t)) w := by
  rw [show (10000 : Nat) = 9998 + 1 + 1 from rfl, Op.equalIn]
  simp only [Sem.run_bind, run_underlying Tryz.underlying30, Result.andThen_ok]
  have z := fun w => Tryz.sizeOf2 w
  simp only [Sem.run_bind, z, Result.andThen_ok]
  have hi := fun (x y : Int) (w : World) => run_equalIn_int (P := Tryz.prog) w 9998 2 .i64 .i64 x y Tryz.underlying2
  have ha := fun w => Tryz.isAgg2 w
  rw [show (forIn [:4] : (Option Bool × Unit) → (Nat → (Option Bool × Unit) → Sem (ForInStep (Option Bool × Unit))) → Sem (Option Bool × Unit)) = forIn [0, 1, 2, 3] from by funext a f; simp [Std.Legacy.Range.forIn_eq_forIn_range', List.range']]
  simp only [List.forIn_cons, List.forIn_nil, Sem.run_bind]
  go_simp
  obtain ⟨a, b, c, d⟩ := s
  obtain ⟨a', b', c', d'⟩ := t
  by_cases h0 : a = a' <;> by_cases h1 : b = b' <;> by_cases h2 : c = c' <;> by_cases h3 : d = d' <;> simp [h0, h1, h2, h3]
theorem eql_tile (s t : T4) (w : World) : (binOp .eql 30 (.agg #[.int .i64 s.a, .int .i64 s.b, .int .i64 s.c, .int .i64 s.d]) (.agg #[.int .i64 t.a, .int .i64 t.b, .int .i64 t.c, .int .i64 t.d])).run Tryz.prog w = .ok (.bool (decide (s = t))) w := by
  rw [run_eql_struct, run_equalIn_tile]
  rfl
theorem neq_tile (s t : T4) (w : World) : (binOp .neq 30 (.agg #[.int .i64 s.a, .int .i64 s.b, .int .i64 s.c, .int .i64 s.d]) (.agg #[.int .i64 t.a, .int .i64 t.b, .int .i64 t.c, .int .i64 t.d])).run Tryz.prog w = .ok (.bool (!decide (s = t))) w := by
  rw [run_neq_struct, run_equalIn_tile]
  rfl
theorem guard_tile (op : BinOp) (x y : Operand) (s t : T4) (w : World) : (eqGuard op 30 x y (.agg #[.int .i64 s.a, .int .i64 s.b, .int .i64 s.c, .int .i64 s.d]) (.agg #[.int .i64 t.a, .int .i64 t.b, .int .i64 t.c, .int .i64 t.d])).run Tryz.prog w = .ok () w :=
  run_eqGuard_agg w op 30 x y _ _ (by kernel_rfl)
def ddp : T4 → List T4 → List T4
  | _, [] => []
  | p, x :: xs => if x = p then ddp p xs else x :: ddp x xs
/-- without neighbours that are equal -/
def ddT : List T4 → List T4
  | [] => []
  | x :: xs => x :: ddp x xs
theorem ddp_snoc (x : T4) : ∀ (xs : List T4) (p : T4), ddp p (xs ++ [x]) = if x = xs.getLastD p then ddp p xs else ddp p xs ++ [x]
  | [], p => by by_cases h : x = p <;> simp [ddp, h]
  | y :: ys, p => by
    rw [List.cons_append, List.getLastD_cons]
    unfold ddp
    by_cases h : y = p
    · rw [if_pos h, if_pos h, ddp_snoc x ys p, h]
    · rw [if_neg h, if_neg h, ddp_snoc x ys y]
      by_cases h2 : x = ys.getLastD y
      · rw [if_pos h2, if_pos h2]
      · rw [if_neg h2, if_neg h2]; rfl
theorem ddT_snoc (xs : List T4) (k : Nat) (hk : k + 1 < xs.length) : ddT (xs.take (k + 2)) = if xs[k + 1] = xs[k] then ddT (xs.take (k + 1)) else ddT (xs.take (k + 1)) ++ [xs[k + 1]] := by
  rw [List.take_succ_eq_append_getElem hk]
  generalize xs[k + 1] = x
  have hl : (xs.take (k + 1)).getLast? = some xs[k] := by
    rw [List.getLast?_eq_getElem?, List.length_take, Nat.min_eq_left (by omega), Nat.add_sub_cancel, List.getElem?_take_of_lt (by omega), List.getElem?_eq_getElem (by omega)]
  cases h : xs.take (k + 1) with
  | nil => rw [h] at hl; cases hl
  | cons y ys =>
    rw [h] at hl
    rw [List.getLast?_cons, Option.some.injEq] at hl
    rw [List.cons_append]
    show y :: ddp y (ys ++ [x]) = if x = xs[k] then y :: ddp y ys else (y :: ddp y ys) ++ [x]
    rw [ddp_snoc, ← hl]
    have e : ys.getLastD y = ys.getLast?.getD y := by rw [List.getLastD_eq_getLast?]
    rw [e]
    split <;> rfl
theorem gb_tr {a b c : World} {row : Option Nat} (h : a.grownBy b row) (k : b.grownBy c row) : a.grownBy c row :=
  ⟨k.os.trans h.os, k.tape.trans h.tape, k.output.trans h.output, Nat.le_trans h.size k.size, fun j hj hne => (k.block j (Nat.lt_of_lt_of_le hj h.size) hne).trans (h.block j hj hne)⟩
theorem gb_rf (a : World) (row : Option Nat) : a.grownBy a row := ⟨rfl, rfl, rfl, Nat.le_refl _, fun _ _ _ => rfl⟩
theorem gb_bl {a b : World} {row : Option Nat} (h : Below a.heap.size a b) : a.grownBy b row := ⟨h.os, h.tape, h.output, h.size, fun k hk _ => h.block k hk⟩
theorem OwnT.tile {w : World} {B g n cap : Nat} {L : List T4} (h : OwnT w B (.slice (some ⟨g, 0, none⟩) n cap) L) (k : Nat) (hk : k < L.length) :
    w.cell? ⟨g, k * 4, none⟩ = some (.int .i64 L[k].a) ∧ w.cell? ⟨g, k * 4 + 1, none⟩ = some (.int .i64 L[k].b) ∧ w.cell? ⟨g, k * 4 + 2, none⟩ = some (.int .i64 L[k].c) ∧ w.cell? ⟨g, k * 4 + 3, none⟩ = some (.int .i64 L[k].d) := by
  obtain ⟨A, cx, e, hT⟩ := h.tiles
  injection e with a1 a2 a3
  have := hT.pair a1.symm k hk
  simpa using this
theorem OwnT.setT {w : World} {B g n cap : Nat} {L : List T4} (h : OwnT w B (.slice (some ⟨g, 0, none⟩) n cap) L) (k : Nat) (hk : k < L.length) (t : T4) :
    OwnT ((((w.setCell ⟨g, k * 4, none⟩ (.int .i64 t.a)).setCell ⟨g, k * 4 + 1, none⟩ (.int .i64 t.b)).setCell ⟨g, k * 4 + 2, none⟩ (.int .i64 t.c)).setCell ⟨g, k * 4 + 3, none⟩ (.int .i64 t.d)) B (.slice (some ⟨g, 0, none⟩) n cap) (L.set k t) ∧
    w.grownBy ((((w.setCell ⟨g, k * 4, none⟩ (.int .i64 t.a)).setCell ⟨g, k * 4 + 1, none⟩ (.int .i64 t.b)).setCell ⟨g, k * 4 + 2, none⟩ (.int .i64 t.c)).setCell ⟨g, k * 4 + 3, none⟩ (.int .i64 t.d)) (some g) := by
  have hn : n = L.length := by obtain ⟨A, cx, e, hT⟩ := h.tiles; injection e
  subst hn
  obtain ⟨s1, t1⟩ := World.ownsRow.stored h (k * 4) (.int .i64 t.a)
  obtain ⟨s2, t2⟩ := World.ownsRow.stored s1 (k * 4 + 1) (.int .i64 t.b)
  obtain ⟨s3, t3⟩ := World.ownsRow.stored s2 (k * 4 + 2) (.int .i64 t.c)
  obtain ⟨s4, t4⟩ := World.ownsRow.stored s3 (k * 4 + 3) (.int .i64 t.d)
  rw [tcells_set L k hk t] at s4
  refine ⟨?_, gb_tr (gb_tr (gb_tr t1 t2) t3) t4⟩
  unfold OwnT
  rw [List.length_set]
  exact s4
theorem OwnT.frz {w : World} {B g n cap : Nat} {L : List T4} (h : OwnT w B (.slice (some ⟨g, 0, none⟩) n cap) L) (j : Nat) : w.frozen? ⟨g, j, none⟩ = false := by
  obtain ⟨h1, ⟨h2, _⟩ | ⟨g', cap', cur, e, hB, hb, _⟩⟩ := h
  · cases h2
  · injection e with a1
    injection a1 with a1
    injection a1 with a1
    subst a1
    simp [World.frozen?, hb]
theorem tcells_take (L : List T4) (k : Nat) : (tcells L).take (k * 4) = tcells (L.take k) := by
  induction L generalizing k with
  | nil => simp [tcells]
  | cons t ts ih =>
    cases k with
    | zero => simp [tcells]
    | succ k => rw [List.take_succ_cons, tcells_cons, tcells_cons, ← ih, show (k + 1) * 4 = k * 4 + 1 + 1 + 1 + 1 by omega]; simp
theorem clear_T {w : World} {B g n cap : Nat} {L : List T4} (h : OwnT w B (.slice (some ⟨g, 0, none⟩) n cap) L) (k : Nat) (hk : k < n) :
    ∃ W', (∀ ty, (Builtin.clear_ #[28] ty #[.slice (some ⟨g, k * 4, none⟩) (n - k) (cap - k)]).run Tryz.prog w = .ok (.tuple #[]) W') ∧ OwnT W' B (.slice (some ⟨g, 0, none⟩) k cap) (L.take k) ∧ w.grownBy W' (some g) := by
  have hn : n = L.length := by obtain ⟨A, cx, e, hT⟩ := h.tiles; injection e
  subst hn
  obtain ⟨g', cap', cur, e, hB, hb, h1, h2, h3, h4⟩ := h.parts (by omega)
  injection e with a1 a2 a3
  injection a1 with a1
  injection a1 with a1
  subst a1 a3
  obtain ⟨Z, hZ⟩ : ∃ Z, Z = (Builtin.zeroCells (Value.cells (.agg #[.int .i64 0, .int .i64 0, .int .i64 0, .int .i64 0])) (L.length - k)).toList := ⟨_, rfl⟩
  have hZl : Z.length = (L.length - k) * 4 := by rw [hZ, Array.length_toList, size_zeroCells]; rfl
  have hZ1 : ∀ v ∈ Z, v.oneCell' = true := by
    intro v hv
    rw [hZ] at hv
    simp only [Builtin.zeroCells, Array.toList_map, List.mem_map] at hv
    obtain ⟨i, _, rfl⟩ := hv
    have hi : i % 4 < 4 := Nat.mod_lt _ (by omega)
    have : i % 4 = 0 ∨ i % 4 = 1 ∨ i % 4 = 2 ∨ i % 4 = 3 := by omega
    show ((#[Value.int .i64 0, .int .i64 0, .int .i64 0, .int .i64 0] : Array Value)[i % 4]!).oneCell' = true
    rcases this with e | e | e | e <;> rw [e] <;> rfl
  have hst := run_storeCells_at Tryz.prog g (k * 4) 30 Z 0 cur w hb (by rw [hZl, h3]; omega) hZ1
  simp only [Nat.add_zero] at hst
  refine ⟨w.setRow g (cur.toList.take (k * 4) ++ Z ++ cur.toList.drop (k * 4 + Z.length)).toArray, fun ty => ?_, ?_, ?_⟩
  rotate_left
  · refine ⟨(tcells_length _).trans (by rw [List.length_take, Nat.min_eq_left (by omega)]), .inr ⟨g, cap, _, by rw [List.length_take, Nat.min_eq_left (by omega)], hB, setRow_heap w g cur _ _ _ hb, by rw [List.length_take]; omega, h2, ?_, ?_⟩⟩
    rotate_left
    · rw [List.length_take, Nat.min_eq_left (by omega), List.append_assoc, List.take_left' (by rw [List.length_take, Array.length_toList, h3]; omega), ← tcells_take, ← h4, List.take_take, Nat.min_eq_left (by omega)]
    · simp [hZl, h3]; omega
  · exact ⟨rfl, rfl, rfl, by simp, fun j _ hj => setRow_other _ _ _ _ (fun e => hj (by rw [e]))⟩
  · obtain ⟨m, hm⟩ : ∃ m, L.length - k = m + 1 := ⟨L.length - k - 1, by omega⟩
    have hv := fun w => Tryz.zeroValue30 w
    rw [hm] at hZ ⊢
    simp [Builtin.clear_, run_underlying Tryz.underlying28, hv, ← hZ, hst]
end Go.Proofs.YtnoehaphbpkpjaaGreat
namespace Go.Proofs.YtnoehaphbpkpjaaGreat
open Go.RowKit
theorem len_le_of_mem : ∀ (D E : List T4), D.Nodup → (∀ x ∈ D, x ∈ E) → D.length ≤ E.length
  | [], _, _, _ => Nat.zero_le _
  | d :: D, E, hn, h => by
    have hd : d ∈ E := h d (by simp)
    obtain ⟨h1, h2⟩ := List.nodup_cons.1 hn
    have := len_le_of_mem D (E.erase d) h2 (fun x hx => by
      have hne : x ≠ d := fun e => h1 (by rw [← e]; exact hx)
      exact (List.mem_erase_of_ne hne).2 (h x (by simp [hx])))
    have hl := List.length_erase_of_mem hd
    have h0 : 0 < E.length := List.length_pos_of_mem hd
    simp only [List.length_cons]
    omega
theorem len_eq_of_mem (D E : List T4) (h1 : D.Nodup) (h2 : E.Nodup) (h : ∀ x, x ∈ D ↔ x ∈ E) : D.length = E.length :=
  Nat.le_antisymm (len_le_of_mem D E h1 (fun x => (h x).1)) (len_le_of_mem E D h2 (fun x => (h x).2))
theorem ltT_of_ne {x y : T4} (h : ltT y x = false) (hne : y ≠ x) : ltT x y = true := by
  cases h2 : ltT x y
  · exact absurd (ltT_anti y x h h2) hne
  · rfl
theorem ddp_spec : ∀ (xs : List T4) (p : T4), (p :: xs).Pairwise (fun x y => ltT y x = false) →
    (ddp p xs).Pairwise (fun x y => ltT x y = true) ∧ (∀ x, x ∈ ddp p xs ↔ x ∈ xs ∧ x ≠ p) ∧ (∀ x ∈ ddp p xs, ltT p x = true)
  | [], p, _ => by simp [ddp]
  | y :: ys, p, h => by
    rw [List.pairwise_cons, List.pairwise_cons] at h
    obtain ⟨h1, h2, h3⟩ := h
    have hy := h1 y (by simp)
    unfold ddp
    by_cases e : y = p
    · rw [if_pos e]
      obtain ⟨i1, i2, i3⟩ := ddp_spec ys p (List.pairwise_cons.2 ⟨fun z hz => h1 z (by simp [hz]), h3⟩)
      refine ⟨i1, fun x => ?_, i3⟩
      rw [i2]
      constructor
      · rintro ⟨a, b⟩; exact ⟨by simp [a], b⟩
      · rintro ⟨a, b⟩
        rcases List.mem_cons.1 a with rfl | a
        · exact absurd e b
        · exact ⟨a, b⟩
    · rw [if_neg e]
      obtain ⟨i1, i2, i3⟩ := ddp_spec ys y (List.pairwise_cons.2 ⟨h2, h3⟩)
      have hpy : ltT p y = true := ltT_of_ne hy e
      refine ⟨List.pairwise_cons.2 ⟨i3, i1⟩, fun x => ?_, ?_⟩
      · rw [List.mem_cons, List.mem_cons, i2]
        constructor
        · rintro (rfl | ⟨a, b⟩)
          · exact ⟨.inl rfl, e⟩
          · refine ⟨.inr a, fun e' => ?_⟩
            subst e'
            have := h2 x a
            rw [hpy] at this
            cases this
        · rintro ⟨a, b⟩
          rcases a with rfl | a
          · exact .inl rfl
          · by_cases e2 : x = y
            · exact .inl e2
            · exact .inr ⟨a, e2⟩
      · intro x hx
        rcases List.mem_cons.1 hx with rfl | hx
        · exact hpy
        · exact ltT_swo.trans _ _ _ hpy (i3 x hx)
theorem ddT_spec (ss : List T4) (h : ss.Pairwise (fun x y => ltT y x = false)) : (ddT ss).Pairwise (fun x y => ltT x y = true) ∧ ∀ x, x ∈ ddT ss ↔ x ∈ ss := by
  cases ss with
  | nil => simp [ddT]
  | cons p xs =>
    obtain ⟨i1, i2, i3⟩ := ddp_spec xs p h
    refine ⟨List.pairwise_cons.2 ⟨i3, i1⟩, fun x => ?_⟩
    show x ∈ p :: ddp p xs ↔ _
    rw [List.mem_cons, List.mem_cons, i2]
    constructor
    · rintro (a | ⟨a, b⟩)
      · exact .inl a
      · exact .inr a
    · rintro (a | a)
      · exact .inl a
      · by_cases e : x = p
        · exact .inl e
        · exact .inr ⟨a, e⟩
/-- the different tiles of a list, by their order -/
def setT (ts : List T4) : List T4 := ddT (sortT ts)
theorem setT_mem (ts : List T4) (x : T4) : x ∈ setT ts ↔ x ∈ ts := ((ddT_spec _ (sortT_sorted ts)).2 x).trans (sortT_perm ts).mem_iff
theorem setT_asc (ts : List T4) : (setT ts).Pairwise (fun x y => ltT x y = true) := (ddT_spec _ (sortT_sorted ts)).1
theorem setT_nodup (ts : List T4) : (setT ts).Nodup := (setT_asc ts).imp (fun h e => by rw [e, ltT_swo.irrefl] at h; cases h)
end Go.Proofs.YtnoehaphbpkpjaaGreat
namespace Go.Proofs.YtnoehaphbpkpjaaGreat
open Go.RowKit
theorem asc_unique : ∀ (D E : List T4), D.Pairwise (fun x y => ltT x y = true) → E.Pairwise (fun x y => ltT x y = true) → (∀ x, x ∈ D ↔ x ∈ E) → D = E
  | [], [], _, _, _ => rfl
  | [], e :: E, _, _, h => absurd ((h e).2 (by simp)) (by simp)
  | d :: D, [], _, _, h => absurd ((h d).1 (by simp)) (by simp)
  | d :: D, e :: E, hD, hE, h => by
    rw [List.pairwise_cons] at hD hE
    have hde : d = e := by
      rcases List.mem_cons.1 ((h d).1 (by simp)) with h1 | h1
      · exact h1
      · rcases List.mem_cons.1 ((h e).2 (by simp)) with h2 | h2
        · exact h2.symm
        · have a := hE.1 d h1
          have b := hD.1 e h2
          have := ltT_swo.trans _ _ _ a b
          rw [ltT_swo.irrefl] at this
          cases this
    subst hde
    rw [asc_unique D E hD.2 hE.2 (fun x => ?_)]
    constructor
    · intro hx
      rcases List.mem_cons.1 ((h x).1 (by simp [hx])) with h1 | h1
      · subst h1; have := hD.1 x hx; rw [ltT_swo.irrefl] at this; cases this
      · exact h1
    · intro hx
      rcases List.mem_cons.1 ((h x).2 (by simp [hx])) with h1 | h1
      · subst h1; have := hE.1 x hx; rw [ltT_swo.irrefl] at this; cases this
      · exact h1
theorem setT_eq {ts L : List T4} (hL : L.Pairwise (fun x y => ltT x y = true)) (h : ∀ x, x ∈ L ↔ x ∈ ts) : setT ts = L :=
  asc_unique _ _ (setT_asc ts) hL (fun x => (setT_mem ts x).trans (h x).symm)
theorem setT_skip {ts : List T4} {t : T4} (h : t ∈ setT ts) : setT (ts ++ [t]) = setT ts :=
  setT_eq (setT_asc ts) (fun x => by
    rw [setT_mem, List.mem_append, List.mem_singleton]
    constructor
    · exact .inl
    · rintro (h1 | h1)
      · exact h1
      · subst h1; exact (setT_mem ts x).1 h)
theorem setT_ins {ts : List T4} {t : T4} (at_ : Nat) (ha : at_ ≤ (setT ts).length) (h1 : ∀ j (h : j < (setT ts).length), at_ ≤ j → ltT t (setT ts)[j] = true)
    (h2 : at_ = 0 ∨ ∃ h : at_ - 1 < (setT ts).length, ltT t (setT ts)[at_ - 1] = false ∧ (setT ts)[at_ - 1] ≠ t) : setT (ts ++ [t]) = (setT ts).take at_ ++ t :: (setT ts).drop at_ := by
  have hasc := setT_asc ts
  have hmem := setT_mem ts
  generalize setT ts = L at *
  have hlow : ∀ x ∈ L.take at_, ltT x t = true := by
    intro x hx
    obtain ⟨j, hj, rfl⟩ := List.getElem_of_mem hx
    rw [List.length_take] at hj
    rw [List.getElem_take]
    rcases h2 with h2 | ⟨h2, h3, h4⟩
    · omega
    · have hb := ltT_of_ne h3 h4.symm
      by_cases e : j = at_ - 1
      · subst e; exact hb
      · exact ltT_swo.trans _ _ _ (List.pairwise_iff_getElem.1 hasc j (at_ - 1) (by omega) h2 (by omega)) hb
  have hhigh : ∀ x ∈ L.drop at_, ltT t x = true := by
    intro x hx
    obtain ⟨j, hj, rfl⟩ := List.getElem_of_mem hx
    rw [List.getElem_drop]
    exact h1 _ (by rw [List.length_drop] at hj; omega) (by omega)
  refine setT_eq ?_ (fun x => ?_)
  · rw [List.pairwise_append]
    refine ⟨hasc.sublist (List.take_sublist _ _), List.pairwise_cons.2 ⟨hhigh, hasc.sublist (List.drop_sublist _ _)⟩, fun x hx y hy => ?_⟩
    rcases List.mem_cons.1 hy with rfl | hy
    · exact hlow x hx
    · exact ltT_swo.trans _ _ _ (hlow x hx) (hhigh y hy)
  · have e : x ∈ L ↔ x ∈ L.take at_ ∨ x ∈ L.drop at_ := by rw [← List.mem_append, List.take_append_drop]
    rw [List.mem_append, List.mem_cons, List.mem_append, List.mem_singleton, ← hmem, e]
    constructor
    · rintro (h | h | h)
      · exact .inl (.inl h)
      · exact .inr h
      · exact .inl (.inr h)
    · rintro ((h | h) | h)
      · exact .inl h
      · exact .inr (.inr h)
      · exact .inr (.inl h)
theorem setT_take_len (ts : List T4) : (setT ts).length ≤ ts.length := len_le_of_mem _ _ (setT_nodup ts) (fun x h => (setT_mem ts x).1 h)
theorem setT_len_nodup {ts : List T4} (h : ts.Nodup) : (setT ts).length = ts.length := len_eq_of_mem _ _ (setT_nodup ts) h (setT_mem ts)
/-- the tiles of a multiplying set, in the order of the loops -/
def mCell (p q l d e : Int) : List T4 := if 1 - p ≤ p * d + l - q * e ∧ p * d + l - q * e ≤ q - 1 then [⟨l + p - 1, d, p * d + l - q * e + p - 1, e⟩] else []
def mRow (p q l d u : Int) (k : Nat) : List T4 := (List.range k).flatMap fun j : Nat => mCell p q l d (u + j)
def mDs (p q l m u : Int) (K k : Nat) : List T4 := (List.range k).flatMap fun j : Nat => mRow p q l (m + j) u K
def mAll (p q m u : Int) (N K k : Nat) : List T4 := (List.range k).flatMap fun j : Nat => mDs p q (1 - p + j) m u K N
theorem mRow_succ (p q l d u : Int) (k : Nat) : mRow p q l d u (k + 1) = mRow p q l d u k ++ mCell p q l d (u + k) := by simp [mRow, List.range_succ]
theorem mDs_succ (p q l m u : Int) (K k : Nat) : mDs p q l m u K (k + 1) = mDs p q l m u K k ++ mRow p q l (m + k) u K := by simp [mDs, List.range_succ]
theorem mAll_succ (p q m u : Int) (N K k : Nat) : mAll p q m u N K (k + 1) = mAll p q m u N K k ++ mDs p q (1 - p + k) m u K N := by simp [mAll, List.range_succ]
theorem mCell_len (p q l d e : Int) : (mCell p q l d e).length ≤ 1 := by unfold mCell; split <;> simp
theorem mRow_len (p q l d u : Int) : ∀ k, (mRow p q l d u k).length ≤ k
  | 0 => by simp [mRow]
  | k + 1 => by rw [mRow_succ, List.length_append]; have := mRow_len p q l d u k; have := mCell_len p q l d (u + k); omega
theorem mDs_len (p q l m u : Int) (K : Nat) (hK : K ≤ 6) : ∀ k, (mDs p q l m u K k).length ≤ k * 6
  | 0 => by simp [mDs]
  | k + 1 => by rw [mDs_succ, List.length_append]; have := mDs_len p q l m u K hK k; have := mRow_len p q l (m + k) u K; omega
theorem mAll_len (p q m u : Int) (N K : Nat) (hK : K ≤ 6) (hN : N ≤ 6) : ∀ k, (mAll p q m u N K k).length ≤ k * 36
  | 0 => by simp [mAll]
  | k + 1 => by rw [mAll_succ, List.length_append]; have := mAll_len p q m u N K hK hN k; have := mDs_len p q (1 - p + k) m u K hK N; omega
theorem mAll_nodup (p q m u : Int) (N K k : Nat) : (mAll p q m u N K k).Nodup := by
  have hcell : ∀ l d e x, x ∈ mCell p q l d e → x.a = l + p - 1 ∧ x.b = d ∧ x.d = e := by
    intro l d e x hx
    unfold mCell at hx
    split at hx
    · rw [List.mem_singleton] at hx; subst hx; exact ⟨rfl, rfl, rfl⟩
    · simp at hx
  have hrow : ∀ l d x, x ∈ mRow p q l d u K → x.a = l + p - 1 ∧ x.b = d := by
    intro l d x hx
    unfold mRow at hx
    obtain ⟨j, _, hj⟩ := List.mem_flatMap.1 hx
    exact ⟨(hcell _ _ _ _ hj).1, (hcell _ _ _ _ hj).2.1⟩
  have hds : ∀ l x, x ∈ mDs p q l m u K N → x.a = l + p - 1 := by
    intro l x hx
    unfold mDs at hx
    obtain ⟨j, _, hj⟩ := List.mem_flatMap.1 hx
    exact (hrow _ _ _ hj).1
  have n1 : ∀ l d e, (mCell p q l d e).Nodup := by intro l d e; unfold mCell; split <;> simp
  have n2 : ∀ l d k, (mRow p q l d u k).Nodup := by
    intro l d k
    unfold mRow
    rw [List.Nodup, List.pairwise_flatMap]
    refine ⟨fun j _ => n1 _ _ _, (List.pairwise_iff_getElem.2 fun i j hi hj hij x hx y hy e => ?_)⟩
    have a := (hcell _ _ _ _ hx).2.2
    have b := (hcell _ _ _ _ hy).2.2
    rw [e, List.getElem_range] at a
    rw [List.getElem_range] at b
    omega
  have n3 : ∀ l k, (mDs p q l m u K k).Nodup := by
    intro l k
    unfold mDs
    rw [List.Nodup, List.pairwise_flatMap]
    refine ⟨fun j _ => n2 _ _ _, (List.pairwise_iff_getElem.2 fun i j hi hj hij x hx y hy e => ?_)⟩
    have a := (hrow _ _ _ hx).2
    have b := (hrow _ _ _ hy).2
    rw [e, List.getElem_range] at a
    rw [List.getElem_range] at b
    omega
  unfold mAll
  rw [List.Nodup, List.pairwise_flatMap]
  refine ⟨fun j _ => n3 _ _, (List.pairwise_iff_getElem.2 fun i j hi hj hij x hx y hy e => ?_)⟩
  have a := hds _ _ hx
  have b := hds _ _ hy
  rw [e, List.getElem_range] at a
  rw [List.getElem_range] at b
  omega
/-- tiles are appended to an owned list of tiles -/
theorem app_tiles {o : Oper} {a : Act} {W : World} {K : Act → World → Prop} {Q : Exit → Act → World → Prop} (s x : Operand)
    (ho : o.op = .call { callee := .builtin .append, args := #[s, x], argTypes := #[28, 28] }) (B : Nat) (v : Value) (ts us : List T4) (hs : a.eval s = v) (hown : OwnT W B v ts)
    (ad : Addr) (c : Nat) (hx : a.eval x = .slice (some ad) us.length c) (hc : ∀ j u, (tcells us)[j]? = some u → W.cell? (ad.add j) = some u) (hl : ts.length + us.length ≤ 1000000000) (hB : B ≤ W.heap.size)
    (h : ∀ v' w', OwnT w' B v' (ts ++ us) → W.grownBy w' v.ownBlock → (v'.ownBlock = v.ownBlock ∨ v'.ownBlock = some W.heap.size) → K (a.put o.dst v') w') : o.wp Tryz.prog a W K Q := by
  refine app_gen s x 28 30 (.agg #[.int .i64 0, .int .i64 0, .int .i64 0, .int .i64 0]) 4 32 ho Tryz.underlying28 infoTile2 rfl (by decide) B v ts.length (tcells ts) hs hown ad us.length c (tcells us) hx (tcells_length us) hc ?_ ?_ ?_ hB ?_
  · intro u hu
    unfold tcells at hu
    obtain ⟨t, _, ht⟩ := List.mem_flatMap.1 hu
    simp only [ints, T4.l, List.map_cons, List.map_nil, List.mem_cons, List.not_mem_nil, or_false] at ht
    rcases ht with rfl | rfl | rfl | rfl <;> rfl
  · simp [maxLen]; omega
  · omega
  · intro v' w' h1 h2 h3
    refine h v' w' ?_ h2 h3
    unfold OwnT
    rw [tcells_append, List.length_append]
    exact h1
theorem wpl_app_tiles {ops : Array Oper} {rest : List Oper} {o : Oper} {a : Act} {W : World} {Q : Exit → Act → World → Prop} (hgd : o.guard = none) (s x : Operand)
    (ho : o.op = .call { callee := .builtin .append, args := #[s, x], argTypes := #[28, 28] }) (B : Nat) (v : Value) (ts us : List T4) (hs : a.eval s = v) (hown : OwnT W B v ts)
    (ad : Addr) (c : Nat) (hx : a.eval x = .slice (some ad) us.length c) (hc : ∀ j u, (tcells us)[j]? = some u → W.cell? (ad.add j) = some u) (hl : ts.length + us.length ≤ 1000000000) (hB : B ≤ W.heap.size)
    (h : ∀ v' w', OwnT w' B v' (ts ++ us) → W.grownBy w' v.ownBlock → (v'.ownBlock = v.ownBlock ∨ v'.ownBlock = some W.heap.size) → wpList Tryz.prog ops Q rest (a.put o.dst v') w') : wpList Tryz.prog ops Q (o :: rest) a W :=
  wpList_plain hgd fun _ hK => app_tiles s x ho B v ts us hs hown ad c hx hc hl hB fun v' w' h1 h2 h3 => hK _ _ (h v' w' h1 h2 h3)
/-- the cells of an owned list from a place on -/
theorem OwnT.cellsFrom {w : World} {B g n cap : Nat} {L : List T4} (h : OwnT w B (.slice (some ⟨g, 0, none⟩) n cap) L) (k : Nat) (j : Nat) (u : Value) (hj : (tcells (L.drop k))[j]? = some u) : w.cell? ((⟨g, k * 4, none⟩ : Addr).add j) = some u := by
  obtain ⟨A, cx, e, hT⟩ := h.tiles
  injection e with a1 a2 a3
  subst a1 a2 a3
  have hk : k < L.length := by
    rcases Nat.lt_or_ge k L.length with h | h
    · exact h
    · rw [List.drop_eq_nil_of_le h] at hj; simp [tcells] at hj
  have hL : 0 < L.length := by omega
  obtain ⟨g', cap', cur, e, hB, hb, h1, h2, h3, h4⟩ := h.parts hL
  injection e with a1 a2 a3
  injection a1 with a1
  injection a1 with a1
  subst a1 a3
  have hd : tcells (L.drop k) = (tcells L).drop (k * 4) := by
    have := congrArg tcells (List.take_append_drop k L)
    rw [tcells_append, ← tcells_take] at this
    exact List.append_cancel_left (this.trans (List.take_append_drop (k * 4) (tcells L)).symm)
  rw [hd, List.getElem?_drop, ← h4, List.getElem?_take] at hj
  split at hj
  · rw [show (⟨g, k * 4, none⟩ : Addr).add j = ⟨g, k * 4 + j, none⟩ by cases j <;> rfl]
    simp only [World.cell?, hb]
    simpa using hj
  · cases hj
theorem OwnT.upto {w : World} {B g n cap : Nat} {L : List T4} (h : OwnT w B (.slice (some ⟨g, 0, none⟩) n cap) L) (k : Nat) (j : Nat) (u : Value) (hj : (tcells (L.take k))[j]? = some u) : w.cell? ((⟨g, 0, none⟩ : Addr).add j) = some u := by
  have := h.cellsFrom 0 j u
  simp only [Nat.zero_mul, List.drop_zero] at this
  apply this
  rw [← tcells_take, List.getElem?_take] at hj
  split at hj
  · exact hj
  · cases hj
theorem OwnT.one (w : World) (x : T4) {B : Nat} (hB : B ≤ w.heap.size) : OwnT (w.alloc (.cells #[.int .i64 x.a, .int .i64 x.b, .int .i64 x.c, .int .i64 x.d] 30)) B (.slice (some ⟨w.heap.size, 0, none⟩) 1 1) [x] :=
  World.ownsRow_lit (base := B) (e := 30) (size := 4) w #[.int .i64 x.a, .int .i64 x.b, .int .i64 x.c, .int .i64 x.d] 1 hB (by decide) rfl
theorem OwnT.drew {w : World} {B : Nat} {v : Value} {ts : List T4} (h : OwnT w B v ts) : OwnT { w with drawn := w.drawn + 1 } B v ts := h
theorem OwnT.all {w : World} {B g n cap : Nat} {L : List T4} (h : OwnT w B (.slice (some ⟨g, 0, none⟩) n cap) L) (j : Nat) (u : Value) (hj : (tcells L)[j]? = some u) : w.cell? ((⟨g, 0, none⟩ : Addr).add j) = some u := by
  refine h.upto L.length j u ?_
  rw [List.take_length]; exact hj
theorem OwnT.rowlt {w : World} {B : Nat} {v : Value} {ts : List T4} (h : OwnT w B v ts) : ∀ k, v.ownBlock = some k → B ≤ k := fun k hk => (World.ownsRow.lt h k hk).1

end Go.Proofs.YtnoehaphbpkpjaaGreat
