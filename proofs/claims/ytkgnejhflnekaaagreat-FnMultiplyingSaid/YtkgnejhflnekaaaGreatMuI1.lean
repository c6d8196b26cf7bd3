/- Contracts and lemmas for the statements of this seat, written for this claim; each theorem states its own conditions. -/
import Derived.RangeFuncNested
import Derived.RangeFuncBox
import Derived.RangeFuncLeaves
import Derived.RangeFuncCalls
import Derived.RangeFuncBound
import Derived.Shelf.Abstract
import Derived.Shelf.RegionOpen
import Derived.WalkKit
import Derived.OwnWalkIn
import Derived.TacticsInMore
import Derived.LoopNIn
import Derived.LoopIn
import Derived.Maps.AppendAt
import Derived.Shelf.SlSortCmp.WholeK
import Derived.Shelf.SlSortCmp.NoneTotal
import Derived.Sort.LotA
import Derived.Laws.IdiomCopy
import Derived.Test.YtkgnejhflnekaaaGreatMuSl
import Derived.Test.YtkgnejhflnekaaaGreatMuB
import Derived.Test.YtkgnejhflnekaaaGreatMuL1
import Derived.Test.YtkgnejhflnekaaaGreatMuSe
set_option linter.unusedVariables false
set_option linter.unusedSimpArgs false
namespace Go.Proofs.YtkgnejhflnekaaaGreat
open Go.RowKit
attribute [local go_sem] Oper.semAt_some
theorem below_none {w w' : World} (h : Below w.heap.size w w') : w.grownBy w' none := ⟨h.os, h.tape, h.output, h.size, fun k hk _ => h.block k hk⟩
set_option maxRecDepth 100000 in
set_option maxHeartbeats 2000000 in
theorem itValues1_in (F : Fence) (n : Nat) (h7 : F.fn 233) (hro : F.round = none) (hn : 1 ≤ n) (l Bs n₀ cap : Nat) (A : Option Addr) (ts : List T4) (hreach : ts.length ≤ 1000000000000) (hb : ∀ b off, A = some ⟨b, off, none⟩ → 0 < ts.length → b < n₀) (J Jx : List T4 → World → Prop)
    (hY : ∀ pre x W, J pre W → pre.length < ts.length → YieldAt F (n - 1) Tryz.prog l #[.agg #[.int .i64 x.a, .int .i64 x.b, .int .i64 x.c, .int .i64 x.d]] W fun e W' =>
      (e = .returned (.bool true) ∧ J (pre ++ [x]) W' ∧ Below n₀ W W') ∨ (e = .returned (.bool false) ∧ Jx (pre ++ [x]) W'))
    (W : World) (hJ : AbidesFrom W.heap.size J) (hn0 : n₀ ≤ W.heap.size) (hBs : W.cell? ⟨Bs, 0, none⟩ = some (.slice A ts.length cap)) (hc : TileCells W A ts) (h0 : J [] W) :
    CallsIn F n Tryz.prog 233 #[.func (.yield l) #[] #[], .pointer (some ⟨Bs, 0, none⟩)] W fun e W' => (∃ v, e = .returned v) ∧
      (J ts W' ∨ (∃ pre, pre <+: ts ∧ Jx pre W')) := by
  refine callsIn_of_wp Tryz.func233 rfl h7 ?_ hro
  simp only [Tryz.ntmps233, List.size_toArray, List.length_cons, List.length_nil, Nat.reduceAdd, Nat.reduceSub, Array.replicate_succ, Array.replicate_zero, List.push_toArray, List.append_toArray, List.nil_append, List.cons_append]
  gi_wp2
  gi_loopw [7] (fun i wr => ∃ k : Nat, k ≤ ts.length ∧ i = .int .i64 k ∧ J (ts.take k) wr ∧ Below n₀ W wr)
    (fun i _ => ts.length - (intOf i).toNat)
  case atStart => exact ⟨0, Nat.zero_le _, rfl, h0, Below.refl _ _⟩
  case round =>
    obtain ⟨k, hk, rfl, hJs, hnx⟩ := hrel
    by_cases hlt : k < ts.length
    · obtain ⟨b, off, rfl, _, c0, c1, c2, c3⟩ := hc k hlt
      replace hb := hb b off rfl (by omega)
      replace c0 := (hnx.cell (p := ⟨b, _, none⟩) hb).trans c0
      replace c1 := (hnx.cell (p := ⟨b, _, none⟩) hb).trans c1
      replace c2 := (hnx.cell (p := ⟨b, _, none⟩) hb).trans c2
      replace c3 := (hnx.cell (p := ⟨b, _, none⟩) hb).trans c3
      have htk : ts.take (k + 1) = ts.take k ++ [ts[k]] := by rw [List.take_succ_eq_append_getElem hlt]
      generalize ts[k] = x at c0 c1 c2 c3 htk
      have hJ2 : J (ts.take k) (wr.alloc (.cells #[.int .i64 x.a, .int .i64 x.b, .int .i64 x.c, .int .i64 x.d] 127)) :=
        hJ _ _ _ none hJs (World.grownBy_alloc _ _ _) (fun r e => by cases e)
      have hB2 : Below n₀ W (wr.alloc (.cells #[.int .i64 x.a, .int .i64 x.b, .int .i64 x.c, .int .i64 x.d] 127)) := hnx.alloc (Nat.le_trans hn0 hnx.size) _
      obtain ⟨fn, tmps, assign, body, hy, hR⟩ := hY _ x _ hJ2 (by rw [List.length_take]; omega)
      have ax := (heap_alloc_new wr (.cells #[.int .i64 x.a, .int .i64 x.b, .int .i64 x.c, .int .i64 x.d] 127))
      clear hJ2
      gi_wp2
      refine hR.mono ?_
      rintro e W3 (⟨rfl, hJ3, hk3⟩ | ⟨rfl, hJx3⟩)
      · gi_wp2
        go_roundw
        case rel => exact ⟨k + 1, by omega, by simp, by rw [htk]; exact hJ3, hB2.trans hk3⟩
        case measure => simp [intOf]; omega
      · gi_wp2
        refine bodyPost_ret (results_none rfl _ _ _) rfl ?_
        exact ⟨⟨_, rfl⟩, .inr ⟨_, ⟨ts.drop (k + 1), by rw [← htk, List.take_append_drop]⟩, hJx3⟩⟩
    · obtain rfl : k = ts.length := by omega
      gi_wp2
      go_end0
      exact ⟨⟨_, rfl⟩, .inl (by simpa using hJs)⟩

set_option maxRecDepth 100000 in
set_option maxHeartbeats 1000000 in
theorem itValues_in (F : Fence) (n : Nat) (h5 : F.fn 228) (hro : F.round = none) (A : Option Addr) (len cap : Nat) (w : World) :
    CallsIn F n Tryz.prog 228 #[.slice A len cap] w fun e w' => e = .returned (.func (.func 233) #[] #[.pointer (some ⟨w.heap.size, 0, none⟩)]) ∧ w' = w.alloc (.cells #[.slice A len cap] 24) := by
  refine callsIn_of_wp Tryz.func228 rfl h5 ?_ hro
  simp only [Tryz.ntmps228, List.size_toArray, List.length_cons, List.length_nil, Nat.reduceAdd, Nat.reduceSub, Array.replicate_succ, Array.replicate_zero, List.push_toArray, List.append_toArray, List.nil_append, List.cons_append]
  gi_wp2
  go_ret
  exact ⟨rfl, rfl⟩

/-- the iterator over a slice of tiles: all of them, in order, or a part -/
theorem itValues_stops (F : Fence) (n : Nat) (h7 : F.fn 233) (hro : F.round = none) (hn : 1 ≤ n) (Bs n₀ cap : Nat) (A : Option Addr) (ts : List T4) (hreach : ts.length ≤ 1000000000000) (hb : ∀ b off, A = some ⟨b, off, none⟩ → 0 < ts.length → b < n₀) (w : World) (hBs : Bs < w.heap.size) (hn₀ : n₀ ≤ w.heap.size)
    (hc : w.cell? ⟨Bs, 0, none⟩ = some (.slice A ts.length cap)) (hT : TileCells w A ts) :
    SeqStopsK F n Tryz.prog 233 #[.pointer (some ⟨Bs, 0, none⟩)] (fun x : T4 => #[.agg #[.int .i64 x.a, .int .i64 x.b, .int .i64 x.c, .int .i64 x.d]]) (Below n₀) (fun ys => ys = ts) (fun pre => pre <+: ts) ts.length w := fun l J Jx W hW hJ _ hY h0 => by
  have hc' := (hW.cell (p := ⟨Bs, 0, none⟩) hBs).trans hc
  refine (itValues1_in F n h7 hro hn l Bs n₀ cap A ts hreach hb J Jx hY W hJ (Nat.le_trans hn₀ hW.size) hc' (hT.below hW) h0).mono ?_
  rintro e W' ⟨he, hj | ⟨pre, hk, hj⟩⟩
  · exact ⟨he, .inl ⟨_, rfl, hj⟩⟩
  · exact ⟨he, .inr ⟨_, hk, hj⟩⟩
theorem tcells_snoc (ts : List T4) (t : T4) : tcells (ts ++ [t]) = tcells ts ++ [.int .i64 t.a, .int .i64 t.b, .int .i64 t.c, .int .i64 t.d] := by rw [tcells_append]; rfl
theorem new_cells (w : World) (cs : List Value) (T : TypeId) : ∀ j u, cs[j]? = some u → (w.alloc (.cells cs.toArray T)).cell? ((⟨w.heap.size, 0, none⟩ : Addr).add j) = some u := by
  intro j u hj
  have := (Blk.new w cs T).cell? j
  rw [hj] at this
  cases j with
  | zero => simpa [Addr.add] using this
  | succ j => simpa [Addr.add] using this
theorem infoTile2 : (Tryz.prog.info? 127).map (fun i => (i.zero, i.size, i.bytes)) = some (some (.agg #[.int .i64 0, .int .i64 0, .int .i64 0, .int .i64 0]), 4, 32) := by kernel_rfl
/-- a slice that the call made and owns: tiles -/
def OwnT (w : World) (B : Nat) (v : Value) (ts : List T4) : Prop := w.ownsRow B 127 4 v ts.length (tcells ts)
set_option maxRecDepth 100000 in
set_option maxHeartbeats 4000000 in
/-- slices.AppendSeq at tiles: what the sequence over ts gives is ts in a slice of the call's own -/
theorem itAppendSeq_in (F : Fence) (n : Nat) (h3 : F.fn 234) (h7 : F.fn 233) (hro : F.round = none) (hn : 3 ≤ n) (Bs cap : Nat) (A : Option Addr) (ts : List T4) (hl : ts.length ≤ 1000000000) (w : World) (hBs : Bs < w.heap.size)
    (hc : w.cell? ⟨Bs, 0, none⟩ = some (.slice A ts.length cap)) (hT : TileCells w A ts) :
    CallsIn F n Tryz.prog 234 #[.slice none 0 0, .func (.func 233) #[] #[.pointer (some ⟨Bs, 0, none⟩)]] w fun e W' => ∃ v, e = .returned v ∧ OwnT W' w.heap.size v ts ∧ Below w.heap.size w W' := by
  have h1 : 1 ≤ n := by omega
  obtain ⟨i0, hi, hz0, hz1, hz2⟩ := info_parts infoTile2
  refine callsIn_of_wp_marks Tryz.func234 rfl h3 ?_ hro
  simp only [Tryz.ntmps234, List.size_toArray, List.length_cons, List.length_nil, Nat.reduceAdd, Nat.reduceSub, Array.replicate_succ, Array.replicate_zero, List.push_toArray, List.append_toArray, List.nil_append, List.cons_append]
  gi_wp2
  have bO := Boxed.new w 24 (.slice none 0 0)
  have hB0 : Below w.heap.size w (w.alloc (.cells #[.slice none 0 0] 24)) := (Below.refl _ w).alloc (Nat.le_refl _) _
  have bS := (Boxed.new w 24 (.slice none 0 0))
  have hb : ∀ b off, A = some ⟨b, off, none⟩ → 0 < ts.length → b < w.heap.size := by
    intro b off hA h0
    obtain ⟨b', off', hA', hlt, _⟩ := hT 0 h0; rw [hA] at hA'; cases hA'; exact hlt
  obtain ⟨W0, hW0⟩ : ∃ W0, w.alloc (.cells #[.slice none 0 0] 24) = W0 := ⟨_, rfl⟩
  have hsz : W0.heap.size = w.heap.size + 1 := by rw [← hW0]; simp
  rw [hW0] at hB0 bO bS ⊢
  clear hW0
  have hc0 : W0.cell? ⟨Bs, 0, none⟩ = some (.slice A ts.length cap) := (hB0.cell (p := ⟨Bs, 0, none⟩) hBs).trans hc
  refine wpIn_rangeFunc_ownH hro h1 (gf := 233) (lb := #[.pointer (some ⟨Bs, 0, none⟩)]) rfl h7 (enters_of Tryz.func233 (by kernel_rfl) rfl)
    (itValues_stops F (n - 1) h7 hro (by omega) Bs w.heap.size cap A ts (by omega) hb W0 (by omega) (by omega) hc0 (hT.below hB0)) belowK_t (belowK_b (by omega)) (Below.refl _ _) (fun _ => rfl)
    (fun pre W => (∃ v, Boxed W w.heap.size 24 v ∧ W.ownsRow w.heap.size 127 4 v pre.length (tcells pre) ∧ True) ∧ Below w.heap.size w W)
    (fun _ _ _ => False)
    (OwnFrom.and (Own.from (holdsRow_own w.heap.size w.heap.size 24 127 4 (fun pre => pre.length) (fun pre => tcells pre) (fun _ _ => True)) _) (ownFrom_below (Nat.le_refl _) (by omega)))
    (fun _ _ _ _ _ hs _ _ => hs)
    ⟨⟨_, bO, World.ownsRow_nil _ _ _ _, trivial⟩, hB0⟩
    (fun x a' W => ∃ Bx, w.heap.size < Bx ∧ Bx < W.heap.size ∧ W.heap[Bx]? = some (.cells #[.int .i64 x.a, .int .i64 x.b, .int .i64 x.c, .int .i64 x.d] 127 (0, 0)) ∧ a' = { tmps := #[.slice none 0 0, .func (.func 233) #[] #[.pointer (some ⟨Bs, 0, none⟩)], .pointer (some ⟨w.heap.size, 0, none⟩), undef, .slice none 0 0, .pointer (some ⟨Bx, 0, none⟩), .func (.func 233) #[] #[.pointer (some ⟨Bs, 0, none⟩)], .agg #[.int .i64 x.a, .int .i64 x.b, .int .i64 x.c, .int .i64 x.d], undef, undef, undef, undef, undef], defers := [] })
    (fun x a' _ X Y row hs hg hr => by obtain ⟨Bx, h1, hlt, h2, h3⟩ := hs; exact ⟨Bx, h1, Nat.lt_of_lt_of_le hlt hg.size, (hg.block Bx hlt (fun e => by obtain ⟨_, o, ho, hc⟩ := hr Bx e.symm; rw [h2] at ho; cases ho; cases hc)).trans h2, h3⟩)
    ?assign ?body ?done ?stop
  case assign =>
    rintro l pre x W K ⟨⟨v, bS1, hrow, _⟩, hB1⟩ hK
    gi_wp2
    exact hK _ _ ((KeepsOthers.alloc _ _).from _) ((Below.refl _ W).alloc hB1.size _) ⟨⟨v, bS1.alloc _, hrow.alloc _, trivial⟩, hB1.alloc hB1.size _⟩ ⟨W.heap.size, bS1.lt, by simp, heap_alloc_new _ _, rfl⟩
  case body =>
    rintro l pre x a' W hl ⟨r, hr⟩ ⟨⟨v, bS1, hrow, _⟩, hB1⟩ ⟨Bx, hBx, hlx, bX, rfl⟩ hlt
    have cS := bS1.cell
    have q0 : W.cell? ⟨Bx, 0, none⟩ = some (.int .i64 x.a) := by simp [World.cell?, bX]
    have q1 : W.cell? ⟨Bx, 1, none⟩ = some (.int .i64 x.b) := by simp [World.cell?, bX]
    have q2 : W.cell? ⟨Bx, 2, none⟩ = some (.int .i64 x.c) := by simp [World.cell?, bX]
    have q3 : W.cell? ⟨Bx, 3, none⟩ = some (.int .i64 x.d) := by simp [World.cell?, bX]
    gi_wp2_with (gi_at_builtin; refine wpListIn_append_own _ rfl _ _ 24 rfl w.heap.size 127 i0 (.agg #[.int .i64 0, .int .i64 0, .int .i64 0, .int .i64 0]) 4 32 Tryz.underlying24 hi hz0 hz1 hz2 rfl (by decide) _ _ _ rfl (hrow.alloc _) ⟨W.heap.size, 0, none⟩ 1 1 [.int .i64 x.a, .int .i64 x.b, .int .i64 x.c, .int .i64 x.d] rfl rfl (new_cells _ [.int .i64 x.a, .int .i64 x.b, .int .i64 x.c, .int .i64 x.d] _) (by simp [Value.oneCell']) (by simp [maxLen]; omega) (by omega) (by have := hB1.size; simp; omega) ?_; intro v' w1 hown' hgrow _; obtain ⟨g', cap', rfl⟩ := ownsRow_succ hown'; obtain ⟨hv1, hv2, hr2, hk2, hb2⟩ := bS1.appended (by decide) hrow hB1.size (Nat.le_refl _) hown' hgrow; have hc1 := hv1.cell; have hf1 := hv1.frozen)
    exact ⟨hk2.from _, hb2, ⟨_, hv2, by rw [tcells_snoc, List.length_append]; exact hr2, trivial⟩, hB1.trans hb2⟩
  case done =>
    rintro D ys W hD rfl ⟨⟨v, bS1, hrow, _⟩, hB1⟩ hK
    have cS := bS1.cell
    gi_wp2
    refine ⟨by simp, .inl ⟨_, _, rfl, run_takeDeferred hK, ?_⟩⟩
    exact ⟨_, results_tmp rfl _ _ _, v, rfl, ownsRow_putObj hrow _ hK rfl, hB1.trans (belowK_b (w := w) (Nat.le_refl _) W D _ _ (by omega) hK rfl rfl)⟩
  case stop =>
    rintro D c pre W _ _ h _
    exact h.elim

end Go.Proofs.YtkgnejhflnekaaaGreat
namespace Go.Proofs.YtkgnejhflnekaaaGreat
open Go.RowKit
def sortTiles_ren : Go.Shelf.Ren := ⟨fun | 6 => 232 | 15 => 180 | 14 => 235 | 28 => 212 | 29 => 213 | 20 => 236 | 21 => 237 | 22 => 238 | 23 => 239 | 24 => 240 | 25 => 241 | 26 => 242 | 27 => 243 | 46 => 244 | 47 => 223 | 48 => 224 | 49 => 245 | 50 => 246 | 57 => 247 | n => n, fun | 22 => 24 | 24 => 127 | 25 => 141 | 3 => 3 | 39 => 150 | 0 => 0 | 53 => 198 | 55 => 51 | 4 => 4 | 46 => 191 | 45 => 190 | 50 => 195 | 5 => 5 | 9 => 9 | 66 => 208 | 70 => 212 | 76 => 218 | 77 => 219 | n => n, fun | n => n⟩
theorem sortTiles : Go.Proofs.SlLaysF0.n6 Tryz.prog sortTiles_ren := {
  mixed := by kernel_rfl
  f6 := ⟨Tryz.f232.name, by decide, Tryz.func232.trans (congrArg some (by kernel_rfl))⟩
  f14 := ⟨Tryz.f235.name, by decide, Tryz.func235.trans (congrArg some (by kernel_rfl))⟩
  f15 := Tryz.func180.trans (congrArg some (by kernel_rfl))
  f20 := ⟨Tryz.f236.name, by decide, Tryz.func236.trans (congrArg some (by kernel_rfl))⟩
  f21 := ⟨Tryz.f237.name, by decide, Tryz.func237.trans (congrArg some (by kernel_rfl))⟩
  f22 := ⟨Tryz.f238.name, by decide, Tryz.func238.trans (congrArg some (by kernel_rfl))⟩
  f23 := ⟨Tryz.f239.name, by decide, Tryz.func239.trans (congrArg some (by kernel_rfl))⟩
  f24 := ⟨Tryz.f240.name, by decide, Tryz.func240.trans (congrArg some (by kernel_rfl))⟩
  f25 := ⟨Tryz.f241.name, by decide, Tryz.func241.trans (congrArg some (by kernel_rfl))⟩
  f26 := ⟨Tryz.f242.name, by decide, Tryz.func242.trans (congrArg some (by kernel_rfl))⟩
  f27 := ⟨Tryz.f243.name, by decide, Tryz.func243.trans (congrArg some (by kernel_rfl))⟩
  f28 := Tryz.func212.trans (congrArg some (by kernel_rfl))
  f29 := Tryz.func213.trans (congrArg some (by kernel_rfl))
  f46 := ⟨Tryz.f244.name, by decide, Tryz.func244.trans (congrArg some (by kernel_rfl))⟩
  f47 := Tryz.func223.trans (congrArg some (by kernel_rfl))
  f48 := Tryz.func224.trans (congrArg some (by kernel_rfl))
  f49 := ⟨Tryz.f245.name, by decide, Tryz.func245.trans (congrArg some (by kernel_rfl))⟩
  f50 := ⟨Tryz.f246.name, by decide, Tryz.func246.trans (congrArg some (by kernel_rfl))⟩
  f57 := ⟨Tryz.f247.name, by decide, Tryz.func247.trans (congrArg some (by kernel_rfl))⟩
  t0 := Tryz.underlying0
  a0 := Tryz.isAgg0
  z0 := Tryz.sizeOf0
  v0 := Tryz.zeroValue0
  t3 := Tryz.underlying3
  a3 := Tryz.isAgg3
  z3 := Tryz.sizeOf3
  v3 := Tryz.zeroValue3
  t4 := Tryz.underlying4
  a4 := Tryz.isAgg4
  z4 := Tryz.sizeOf4
  v4 := Tryz.zeroValue4
  t5 := Tryz.underlying5
  a5 := Tryz.isAgg5
  z5 := Tryz.sizeOf5
  v5 := Tryz.zeroValue5
  t9 := Tryz.underlying9
  a9 := Tryz.isAgg9
  z9 := Tryz.sizeOf9
  v9 := Tryz.zeroValue9
  t22 := Tryz.underlying24
  a22 := Tryz.isAgg24
  z22 := Tryz.sizeOf24
  v22 := Tryz.zeroValue24
  t25 := Tryz.underlying141
  a25 := Tryz.isAgg141
  z25 := Tryz.sizeOf141
  v25 := Tryz.zeroValue141
  t39 := Tryz.underlying150
  a39 := Tryz.isAgg150
  z39 := Tryz.sizeOf150
  v39 := Tryz.zeroValue150
  t45 := Tryz.underlying190
  a45 := Tryz.isAgg190
  z45 := Tryz.sizeOf190
  v45 := Tryz.zeroValue190
  t46 := Tryz.underlying191
  a46 := Tryz.isAgg191
  z46 := Tryz.sizeOf191
  v46 := Tryz.zeroValue191
  t50 := Tryz.underlying195
  a50 := Tryz.isAgg195
  z50 := Tryz.sizeOf195
  v50 := Tryz.zeroValue195
  t53 := Tryz.underlying198
  a53 := Tryz.isAgg198
  z53 := Tryz.sizeOf198
  v53 := Tryz.zeroValue198
  t55 := Tryz.underlying51
  a55 := Tryz.isAgg51
  z55 := Tryz.sizeOf51
  v55 := Tryz.zeroValue51
  t66 := Tryz.underlying208
  a66 := Tryz.isAgg208
  z66 := Tryz.sizeOf208
  v66 := Tryz.zeroValue208
  t70 := Tryz.underlying212
  a70 := Tryz.isAgg212
  z70 := Tryz.sizeOf212
  v70 := Tryz.zeroValue212
  t76 := Tryz.underlying218
  a76 := Tryz.isAgg218
  z76 := Tryz.sizeOf218
  v76 := Tryz.zeroValue218
  t77 := Tryz.underlying219
  a77 := Tryz.isAgg219
  z77 := Tryz.sizeOf219
  v77 := Tryz.zeroValue219 }
theorem ltT_iff (s t : T4) : ltT s t = decide (s.a < t.a ∨ s.a = t.a ∧ (s.b < t.b ∨ s.b = t.b ∧ (s.c < t.c ∨ s.c = t.c ∧ s.d < t.d))) := by
  by_cases h0 : s.a = t.a
  · by_cases h1 : s.b = t.b
    · by_cases h2 : s.c = t.c
      · rw [ltT_d h0 h1 h2]; congr 1; simp [h0, h1, h2]
      · rw [ltT_c h0 h1 h2]; congr 1; simp [h0, h1, h2]
    · rw [ltT_b h0 h1]; congr 1; simp [h0, h1]
  · rw [ltT_a h0]; congr 1; simp [h0]
theorem ltT_swo : Go.Sort.SWO ltT where
  irrefl x := by rw [ltT_iff]; simp
  trans x y z h1 h2 := by rw [ltT_iff] at *; rw [decide_eq_true_eq] at *; omega
  ntrans x y z h1 h2 := by rw [ltT_iff] at *; rw [decide_eq_false_iff_not] at *; omega
theorem ltT_anti (x y : T4) (h1 : ltT x y = false) (h2 : ltT y x = false) : x = y := by
  rw [ltT_iff] at *; rw [decide_eq_false_iff_not] at *
  obtain ⟨a, b, c, d⟩ := x; obtain ⟨a', b', c', d'⟩ := y
  simp only [T4.mk.injEq]; dsimp only at h1 h2; omega
def sortT (ts : List T4) : List T4 := ts.mergeSort fun x y => !ltT y x
theorem sortT_perm (ts : List T4) : (sortT ts).Perm ts := List.mergeSort_perm _ _
theorem sortT_sorted (ts : List T4) : (sortT ts).Pairwise fun x y => ltT y x = false := by
  have := List.pairwise_mergeSort (le := fun x y => !ltT y x) (fun a b c h1 h2 => by simp only [Bool.not_eq_true'] at *; exact ltT_swo.ntrans _ _ _ h2 h1) (fun a b => by
    simp only [Bool.or_eq_true, Bool.not_eq_true']
    rcases Bool.eq_false_or_eq_true (ltT b a) with h | h
    · right; rw [ltT_iff] at *; rw [decide_eq_true_eq] at h; rw [decide_eq_false_iff_not]; omega
    · exact .inl h) ts
  exact this.imp (fun h => by simpa using h)
theorem sortT_length (ts : List T4) : (sortT ts).length = ts.length := (sortT_perm ts).length_eq
def encT (t : T4) : List Value := ints t.l
theorem flat_tcells (ts : List T4) : Go.Sort.flatK encT 4 ts.toArray = (tcells ts).toArray := by
  apply Array.ext
  · simp [tcells_length]
  · intro i h1 h2
    have hi : i < ts.length * 4 := by simpa using h1
    have hk : i / 4 < ts.length := by omega
    have e1 := tcells_get ts (i / 4) (i % 4) hk (by omega)
    rw [show i / 4 * 4 + i % 4 = i by omega] at e1
    have h2' : i < (tcells ts).length := by simpa using h2
    rw [List.getElem?_eq_getElem h2'] at e1
    have e2 := Go.Sort.get_flatK encT 4 ts.toArray i (by simpa using hi)
    rw [getElem!_pos (Go.Sort.flatK encT 4 ts.toArray) i h1] at e2
    rw [e2]
    have e3 : (ts.toArray)[i / 4]! = ts[i / 4] := by simp [hk]
    rw [e3]
    have e4 : (encT ts[i / 4])[i % 4]? = some (tcells ts)[i] := by rw [e1]; rfl
    rw [List.getElem!_eq_getElem?_getD, e4]
    simp
theorem holdsT {w : World} {g : Nat} {cur : Array Value} {e : TypeId} {ts : List T4} (hb : w.heap[g]? = some (.cells cur e (0, 0))) (ht : cur.toList.take (ts.length * 4) = tcells ts) : Go.Sort.HoldsK encT 4 w g 0 ts.toArray := by
  unfold Go.Sort.HoldsK
  rw [flat_tcells]
  intro j hj
  have hj' : j < (tcells ts).length := by simpa using hj
  refine ⟨?_, by simp [World.frozen?, hb]⟩
  have h1 : (cur.toList.take (ts.length * 4))[j]? = (tcells ts)[j]? := by rw [ht]
  rw [List.getElem?_take_of_lt (by rw [← tcells_length]; exact hj')] at h1
  simp only [World.cell?, hb, Nat.zero_add]
  simp only [Option.isSome_none, Bool.false_eq_true, if_false]
  rw [← Array.getElem?_toList, h1, List.getElem?_eq_getElem hj']
  simp [hj']
theorem heap_sortT {w : World} {g n : Nat} {os : Array Obj} {cur : Array Value} {e : TypeId} {fr : Nat × Nat} (d : Array Value) (hb : w.heap[g]? = some (.cells cur e fr)) :
    (Go.Sort.grow (Go.Sort.putRow id (Go.Sort.ahead w n) g 0 d) os).heap[g]? = some (.cells (Go.Sort.putCells id 0 d cur) e fr) := by
  have hg : g < w.heap.size := (Array.getElem?_eq_some_iff.1 hb).1
  rw [Go.Sort.heap_grow_old _ _ (by simpa using hg)]
  simp [Go.Sort.putRow, Go.Sort.mapBlock, Go.Sort.ahead, Array.getElem?_modify, hb, Go.Sort.onCells]
theorem grownBy_sortT {w : World} {g n : Nat} {os : Array Obj} (d : Array Value) : w.grownBy (Go.Sort.grow (Go.Sort.putRow id (Go.Sort.ahead w n) g 0 d) os) (some g) := by
  refine ⟨rfl, rfl, rfl, by simp, fun k hk hne => ?_⟩
  rw [Go.Sort.heap_grow_old _ _ (by simpa using hk)]
  have : g ≠ k := fun e => hne (by rw [e])
  simp [Go.Sort.putRow, Go.Sort.mapBlock, Go.Sort.ahead, Array.getElem?_modify, this]
theorem take_putT (cur : Array Value) (cs : List Value) (h : cs.length ≤ cur.size) : (Go.Sort.putCells id 0 cs.toArray cur).toList.take cs.length = cs := by
  apply List.ext_getElem?
  intro j
  by_cases hj : j < cs.length
  · rw [List.getElem?_take_of_lt hj, Array.getElem?_toList]
    simp [Go.Sort.putCells, hj, show j < cur.size by omega]
  · rw [List.getElem?_take_eq_none (by omega), List.getElem?_eq_none (by omega)]
set_option maxRecDepth 100000 in
set_option maxHeartbeats 1000000 in
theorem compare_g (s t : T4) (w : World) :
    Calls Tryz.prog 147 #[.agg #[.int .i64 s.a, .int .i64 s.b, .int .i64 s.c, .int .i64 s.d], .agg #[.int .i64 t.a, .int .i64 t.b, .int .i64 t.c, .int .i64 t.d]] w fun e w' =>
      e = .returned (.int .i64 (cmpT s t)) ∧ ∃ q os', w' = Go.Sort.grow (w.drewN q) os' := by
  go_enter Tryz.func147, Tryz.ntmps147
  go_wp2_with fail
  go_still_tail 2, (by kernel_rfl)
  go_wp2_with fail
  refine (slicesCompare_c s.l t.l _ _ 4 4 _ ?_ ?_ (by simp [T4.l]) (by simp [T4.l])).mono ?_
  · exact cells4 (by show World.cell? ((w.alloc _).alloc _) _ = _; simp) (by show World.cell? ((w.alloc _).alloc _) _ = _; simp) (by show World.cell? ((w.alloc _).alloc _) _ = _; simp) (by show World.cell? ((w.alloc _).alloc _) _ = _; simp)
  · exact cells4 (by show World.cell? ((w.alloc _).alloc _) _ = _; simp) (by show World.cell? ((w.alloc _).alloc _) _ = _; simp) (by show World.cell? ((w.alloc _).alloc _) _ = _; simp) (by show World.cell? ((w.alloc _).alloc _) _ = _; simp)
  · rintro e w1 ⟨rfl, rfl⟩
    go_wp2
    go_ret
    exact ⟨rfl, 1, _, by rw [Go.Sort.alloc_eq_grow, Go.Sort.alloc_eq_grow, Go.Sort.grow_grow]; rfl⟩
set_option maxHeartbeats 1000000 in
/-- slices.SortFunc at tiles, by their order -/
theorem sortFuncT_c (ts : List T4) (g cap : Nat) (cur : Array Value) (w : World) (hb : w.heap[g]? = some (.cells cur 127 (0, 0))) (ht : cur.toList.take (ts.length * 4) = tcells ts) (hl : ts.length ≤ 1000000000) :
    Calls Tryz.prog 232 #[.slice (some ⟨g, 0, none⟩) ts.length cap, .func (.func 147) #[] #[]] w fun e w' =>
      e = .returned (.tuple #[]) ∧ w.grownBy w' (some g) ∧ w'.heap[g]? = some (.cells (Go.Sort.putCells id 0 (tcells (sortT ts)).toArray cur) 127 (0, 0)) := by
  have eg : ∀ args w, (callFunc 147 args).run Tryz.prog w = .ok (.enter 147 args) w := enters_of Tryz.func147 (by kernel_rfl) rfl
  have hO : Go.Sort.SWO (ltOf cmpT) := ltT_swo
  have hcon := AnyQ.slices_SortFunc sortTiles 4 Tryz.isAgg127 Tryz.sizeOf127 encT (fun _ => rfl) (fun x v hv => by simp [encT, ints, T4.l] at hv; rcases hv with rfl | rfl | rfl | rfl <;> rfl) cmpT hO 147 #[] g 0 cap ts.toArray w eg (fun _ _ _ _ x y => compare_g x y _) (holdsT hb ht) (Array.getElem?_eq_some_iff.1 hb).1 (by simp; omega)
  change Calls Tryz.prog 232 _ _ _ at hcon
  simp only [List.size_toArray] at hcon
  refine hcon.mono ?_
  rintro e w' ⟨rfl, d', n, os, hp, hs, rfl⟩
  have hd : d'.toList = sortT ts := by
    have := Go.Sort.sorted_unique_holds (lt := ltT) ltT_swo (fun x y => ltT_anti x y) ts.toArray d' (by rw [List.size_toArray]; exact hp) (by rw [List.size_toArray]; exact hs)
    simpa [sortT] using this
  have hd' : d' = (sortT ts).toArray := by rw [← hd]
  subst hd'
  unfold sortWorldK Go.Sort.putRowK
  rw [flat_tcells]
  exact ⟨rfl, grownBy_sortT _, heap_sortT _ hb⟩
theorem OwnT.parts {w : World} {B : Nat} {v : Value} {ts : List T4} (h : OwnT w B v ts) (hne : 0 < ts.length) : ∃ g cap cur, v = .slice (some ⟨g, 0, none⟩) ts.length cap ∧ B ≤ g ∧ w.heap[g]? = some (.cells cur 127 (0, 0)) ∧ ts.length ≤ cap ∧ cap ≤ maxLen ∧ cur.size = cap * 4 ∧ cur.toList.take (ts.length * 4) = tcells ts := by
  obtain ⟨h1, ⟨_, h2⟩ | ⟨g, cap, cur, h2⟩⟩ := h
  · omega
  · exact ⟨g, cap, cur, h2⟩
theorem OwnT.tiles {w : World} {B : Nat} {v : Value} {ts : List T4} (h : OwnT w B v ts) : ∃ A cx, v = .slice A ts.length cx ∧ TileCells w A ts := by
  obtain ⟨h1, ⟨h3, h2⟩ | ⟨g, cap, cur, rfl, hB, hb, h3, h4, h5, h6⟩⟩ := h
  · exact ⟨none, 0, by rw [h3, h2], fun k hk => by omega⟩
  · refine ⟨some ⟨g, 0, none⟩, cap, rfl, fun k hk => ⟨g, 0, rfl, (Array.getElem?_eq_some_iff.1 hb).1, ?_⟩⟩
    have q : ∀ j, j < 4 → w.cell? ⟨g, 0 + k * 4 + j, none⟩ = [Value.int .i64 ts[k].a, .int .i64 ts[k].b, .int .i64 ts[k].c, .int .i64 ts[k].d][j]? := by
      intro j hj
      rw [← tcells_get ts k j hk hj, ← h6, List.getElem?_take_of_lt (by omega)]
      simp [World.cell?, hb]
    exact ⟨q 0 (by omega), q 1 (by omega), q 2 (by omega), q 3 (by omega)⟩
theorem OwnT.below {w w1 : World} {B : Nat} {v : Value} {ts : List T4} (h : OwnT w B v ts) (hb : Below w.heap.size w w1) : OwnT w1 B v ts :=
  World.ownsRow.kept (row := none) h ⟨hb.os, hb.tape, hb.output, hb.size, fun k hk _ => hb.block k hk⟩ (by cases h : v.ownBlock with | none => exact .inl rfl | some k => exact .inr (by simp))
theorem OwnT.sorted {w1 : World} {B g cap : Nat} {cur : Array Value} {ts : List T4} (hB : B ≤ g) (h1 : ts.length ≤ cap) (h2 : cap ≤ maxLen) (h3 : cur.size = cap * 4)
    (hb : w1.heap[g]? = some (.cells (Go.Sort.putCells id 0 (tcells (sortT ts)).toArray cur) 127 (0, 0))) : OwnT w1 B (.slice (some ⟨g, 0, none⟩) ts.length cap) (sortT ts) := by
  have hl := sortT_length ts
  refine ⟨tcells_length _, .inr ⟨g, cap, _, by rw [hl], hB, hb, by omega, h2, by simp [Go.Sort.putCells, h3], ?_⟩⟩
  rw [← tcells_length]
  exact take_putT cur _ (by rw [tcells_length, h3]; omega)
theorem sortFuncO_c (ts : List T4) (B : Nat) (v : Value) (w : World) (hO : OwnT w B v ts) (hl : ts.length ≤ 1000000000) :
    Calls Tryz.prog 232 #[v, .func (.func 147) #[] #[]] w fun e w' =>
      e = .returned (.tuple #[]) ∧ OwnT w' B v (sortT ts) ∧ w.grownBy w' v.ownBlock := by
  by_cases h0 : 0 < ts.length
  · obtain ⟨g, cap, cur, rfl, hB, hb, h1, h2, h3, h4⟩ := hO.parts h0
    refine (sortFuncT_c ts g cap cur w hb h4 hl).mono ?_
    rintro e w' ⟨rfl, hg, hb'⟩
    exact ⟨rfl, OwnT.sorted hB h1 h2 h3 hb', hg⟩
  · obtain rfl : ts = [] := List.length_eq_zero_iff.1 (by omega)
    obtain ⟨A, cx, rfl, _⟩ := hO.tiles
    have hcon := AnyF.slices_SortFunc_none sortTiles A cx (.func (.func 147) #[] #[]) w
    change Calls Tryz.prog 232 _ _ _ at hcon
    refine hcon.mono ?_
    rintro e w' ⟨rfl, rfl⟩
    exact ⟨rfl, by rw [show sortT [] = [] by simp [sortT]]; exact hO, ⟨rfl, rfl, rfl, Nat.le_refl _, fun _ _ _ => rfl⟩⟩

end Go.Proofs.YtkgnejhflnekaaaGreat
namespace Go.Proofs.YtkgnejhflnekaaaGreat
open Go.RowKit
def idxT (p : T4 → Bool) (l : List T4) : Int := match l.findIdx? p with | some i => (i : Int) | none => -1
theorem idxT_none {p : T4 → Bool} {xs : List T4} (h : ∀ j (h : j < xs.length), p xs[j] = false) : idxT p xs = -1 := by
  have : xs.findIdx? p = none := by
    rw [List.findIdx?_eq_none_iff]
    intro x hx
    obtain ⟨j, hj, rfl⟩ := List.getElem_of_mem hx
    exact h j hj
  simp [idxT, this]
theorem idxT_some {p : T4 → Bool} {xs : List T4} {i : Nat} (hi : i < xs.length) (h : ∀ j (h : j < xs.length), j < i → p xs[j] = false) (hp : p xs[i] = true) : idxT p xs = i := by
  have : xs.findIdx? p = some i := by
    rw [List.findIdx?_eq_some_iff_getElem]
    exact ⟨hi, hp, fun j hj => by simp [h j (by omega) hj]⟩
  simp [idxT, this]
def PredT (w : World) (k : FuncId) (caps : Array Value) (p : T4 → Bool) (xs : List T4) : Prop :=
  ∀ x ∈ xs, ∀ w1, Below w.heap.size w w1 → Calls Tryz.prog k (#[.agg #[.int .i64 x.a, .int .i64 x.b, .int .i64 x.c, .int .i64 x.d]] ++ caps) w1 fun e w' => e = .returned (.bool (p x)) ∧ Below w1.heap.size w1 w'
end Go.Proofs.YtkgnejhflnekaaaGreat
namespace Go.Proofs.YtkgnejhflnekaaaGreat
open Go.RowKit
def turnT (t : T4) : T4 := ⟨t.d, t.a, t.b, t.c⟩
theorem wpl_app_tile {ops : Array Oper} {rest : List Oper} {o : Oper} {a : Act} {W : World} {Q : Exit → Act → World → Prop} (hgd : o.guard = none) (s x : Operand)
    (ho : o.op = .call { callee := .builtin .append, args := #[s, x], argTypes := #[24, 24] }) (B : Nat) (v : Value) (ts : List T4) (t : T4) (hs : a.eval s = v) (hown : OwnT W B v ts)
    (b : Nat) (hx : a.eval x = .slice (some ⟨b, 0, none⟩) 1 1) (hc : Blk W b [.int .i64 t.a, .int .i64 t.b, .int .i64 t.c, .int .i64 t.d] 127) (hl : ts.length ≤ 1000000000) (hB : B ≤ W.heap.size)
    (h : ∀ v' w', OwnT w' B v' (ts ++ [t]) → W.grownBy w' v.ownBlock → wpList Tryz.prog ops Q rest (a.put o.dst v') w') : wpList Tryz.prog ops Q (o :: rest) a W := by
  obtain ⟨i0, hi, hz0, hz1, hz2⟩ := info_parts infoTile2
  refine wpList_append_own W hgd s x 24 ho B 127 i0 (.agg #[.int .i64 0, .int .i64 0, .int .i64 0, .int .i64 0]) 4 32 Tryz.underlying24 hi hz0 hz1 hz2 rfl (by decide) v ts.length (tcells ts) hs hown ⟨b, 0, none⟩ 1 1 [.int .i64 t.a, .int .i64 t.b, .int .i64 t.c, .int .i64 t.d] hx rfl ?_ (by simp [Value.oneCell']) (by simp [maxLen]; omega) (by omega) hB ?_
  · intro j u hj
    have := hc.cell? j
    rw [hj] at this
    cases j with
    | zero => simpa [Addr.add] using this
    | succ j => simpa [Addr.add] using this
  · intro v' w' h1 h2 _
    refine h v' w' ?_ h2
    unfold OwnT
    rw [tcells_snoc, List.length_append]
    exact h1
def turnN (t : T4) : Nat → T4
  | 0 => t
  | n + 1 => turnT (turnN t n)
def turnsL (t : T4) (k : Nat) : List T4 := (List.range k).map (turnN t)
theorem turnsL_succ (t : T4) (k : Nat) : turnsL t (k + 1) = turnsL t k ++ [turnN t k] := by simp [turnsL, List.range_succ]
theorem turnsL_length (t : T4) (k : Nat) : (turnsL t k).length = k := by simp [turnsL]
theorem OwnT.empty (w : World) (B : Nat) (hB : B ≤ w.heap.size) : OwnT (w.alloc (.cells #[] 127)) B (.slice (some ⟨w.heap.size, 0, none⟩) 0 0) [] :=
  World.ownsRow_lit (base := B) (e := 127) (size := 4) w #[] 0 hB (by decide) rfl
theorem OwnT.alloc {w : World} {B : Nat} {v : Value} {ts : List T4} (h : OwnT w B v ts) (o : Obj) : OwnT (w.alloc o) B v ts := World.ownsRow.alloc h o
theorem OwnT.other {w : World} {B : Nat} {v : Value} {ts : List T4} (h : OwnT w B v ts) (b k : Nat) (hb : b < B) (u : Value) : OwnT (w.setCell ⟨b, k, none⟩ u) B v ts := by
  refine World.ownsRow.kept (row := some b) h ⟨rfl, rfl, rfl, (KeepsWalks.setCell w _ u).size, fun j _ hj => Below.heap_setCell _ _ _ j (fun e => hj (by rw [e]))⟩ ?_
  obtain ⟨h1, ⟨rfl, h2⟩ | ⟨g, cap, cur, rfl, e2, e3⟩⟩ := h
  · exact .inl rfl
  · refine .inr (fun e => ?_)
    have e' : g = b := Option.some.inj e
    omega
end Go.Proofs.YtkgnejhflnekaaaGreat
