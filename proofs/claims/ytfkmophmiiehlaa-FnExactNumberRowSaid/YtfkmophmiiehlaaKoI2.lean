/- Contracts and lemmas for the statements of this seat, written for this claim; each theorem states its own conditions. -/
import Derived.Shelf.SlSortCmp.WholeK
import Derived.Shelf.SlSortCmp.NoneTotal
import Derived.Sort.LotA
import Derived.Test.YtfkmophmiiehlaaKoI1
import Derived.Test.YtfkmophmiiehlaaKoL1
set_option linter.unusedVariables false
set_option linter.unusedSimpArgs false
namespace Go.Proofs.Ytfkmophmiiehlaa
open Go.RowKit
def sortTiles_ren : Go.Shelf.Ren := ⟨fun | 6 => 128 | 15 => 138 | 14 => 152 | 28 => 166 | 29 => 167 | 20 => 173 | 21 => 174 | 22 => 175 | 23 => 176 | 24 => 177 | 25 => 178 | 26 => 179 | 27 => 180 | 46 => 187 | 47 => 183 | 48 => 184 | 49 => 188 | 50 => 189 | 57 => 191 | n => n, fun | 22 => 29 | 24 => 57 | 25 => 107 | 3 => 3 | 39 => 158 | 0 => 0 | 53 => 185 | 55 => 187 | 4 => 4 | 46 => 178 | 45 => 177 | 50 => 182 | 5 => 5 | 9 => 9 | 66 => 199 | 70 => 203 | 76 => 207 | 77 => 208 | n => n, fun | n => n⟩
theorem sortTiles : Go.Proofs.SlLaysF0.n6 Try.prog sortTiles_ren := {
  mixed := by kernel_rfl
  f6 := ⟨Try.f128.name, by decide, Try.func128.trans (congrArg some (by kernel_rfl))⟩
  f14 := ⟨Try.f152.name, by decide, Try.func152.trans (congrArg some (by kernel_rfl))⟩
  f15 := Try.func138.trans (congrArg some (by kernel_rfl))
  f20 := ⟨Try.f173.name, by decide, Try.func173.trans (congrArg some (by kernel_rfl))⟩
  f21 := ⟨Try.f174.name, by decide, Try.func174.trans (congrArg some (by kernel_rfl))⟩
  f22 := ⟨Try.f175.name, by decide, Try.func175.trans (congrArg some (by kernel_rfl))⟩
  f23 := ⟨Try.f176.name, by decide, Try.func176.trans (congrArg some (by kernel_rfl))⟩
  f24 := ⟨Try.f177.name, by decide, Try.func177.trans (congrArg some (by kernel_rfl))⟩
  f25 := ⟨Try.f178.name, by decide, Try.func178.trans (congrArg some (by kernel_rfl))⟩
  f26 := ⟨Try.f179.name, by decide, Try.func179.trans (congrArg some (by kernel_rfl))⟩
  f27 := ⟨Try.f180.name, by decide, Try.func180.trans (congrArg some (by kernel_rfl))⟩
  f28 := Try.func166.trans (congrArg some (by kernel_rfl))
  f29 := Try.func167.trans (congrArg some (by kernel_rfl))
  f46 := ⟨Try.f187.name, by decide, Try.func187.trans (congrArg some (by kernel_rfl))⟩
  f47 := Try.func183.trans (congrArg some (by kernel_rfl))
  f48 := Try.func184.trans (congrArg some (by kernel_rfl))
  f49 := ⟨Try.f188.name, by decide, Try.func188.trans (congrArg some (by kernel_rfl))⟩
  f50 := ⟨Try.f189.name, by decide, Try.func189.trans (congrArg some (by kernel_rfl))⟩
  f57 := ⟨Try.f191.name, by decide, Try.func191.trans (congrArg some (by kernel_rfl))⟩
  t0 := Try.underlying0
  a0 := Try.isAgg0
  z0 := Try.sizeOf0
  v0 := Try.zeroValue0
  t3 := Try.underlying3
  a3 := Try.isAgg3
  z3 := Try.sizeOf3
  v3 := Try.zeroValue3
  t4 := Try.underlying4
  a4 := Try.isAgg4
  z4 := Try.sizeOf4
  v4 := Try.zeroValue4
  t5 := Try.underlying5
  a5 := Try.isAgg5
  z5 := Try.sizeOf5
  v5 := Try.zeroValue5
  t9 := Try.underlying9
  a9 := Try.isAgg9
  z9 := Try.sizeOf9
  v9 := Try.zeroValue9
  t22 := Try.underlying29
  a22 := Try.isAgg29
  z22 := Try.sizeOf29
  v22 := Try.zeroValue29
  t25 := Try.underlying107
  a25 := Try.isAgg107
  z25 := Try.sizeOf107
  v25 := Try.zeroValue107
  t39 := Try.underlying158
  a39 := Try.isAgg158
  z39 := Try.sizeOf158
  v39 := Try.zeroValue158
  t45 := Try.underlying177
  a45 := Try.isAgg177
  z45 := Try.sizeOf177
  v45 := Try.zeroValue177
  t46 := Try.underlying178
  a46 := Try.isAgg178
  z46 := Try.sizeOf178
  v46 := Try.zeroValue178
  t50 := Try.underlying182
  a50 := Try.isAgg182
  z50 := Try.sizeOf182
  v50 := Try.zeroValue182
  t53 := Try.underlying185
  a53 := Try.isAgg185
  z53 := Try.sizeOf185
  v53 := Try.zeroValue185
  t55 := Try.underlying187
  a55 := Try.isAgg187
  z55 := Try.sizeOf187
  v55 := Try.zeroValue187
  t66 := Try.underlying199
  a66 := Try.isAgg199
  z66 := Try.sizeOf199
  v66 := Try.zeroValue199
  t70 := Try.underlying203
  a70 := Try.isAgg203
  z70 := Try.sizeOf203
  v70 := Try.zeroValue203
  t76 := Try.underlying207
  a76 := Try.isAgg207
  z76 := Try.sizeOf207
  v76 := Try.zeroValue207
  t77 := Try.underlying208
  a77 := Try.isAgg208
  z77 := Try.sizeOf208
  v77 := Try.zeroValue208 }
theorem ltT_iff (s t : T4) : ltT s t = decide (s.a < t.a ∨ s.a = t.a ∧ (s.b < t.b ∨ s.b = t.b ∧ (s.c < t.c ∨ s.c = t.c ∧ s.d < t.d))) := by
  by_cases h0 : s.a = t.a
  · by_cases h1 : s.b = t.b
    · by_cases h2 : s.c = t.c
      · rw [ltT_d h0 h1 h2]; congr 1; simp [h0, h1, h2]
      · rw [ltT_c h0 h1 h2]; congr 1; simp [h0, h1, h2]
    · rw [ltT_b h0 h1]; congr 1; simp [h0, h1]
  · rw [ltT_a h0]; congr 1; simp [h0]
theorem ltT_swo : Go.Sort.SWO ltT where
  irrefl x := by rw [ltT_iff]; simp
  trans x y z h1 h2 := by rw [ltT_iff] at *; rw [decide_eq_true_eq] at *; omega
  ntrans x y z h1 h2 := by rw [ltT_iff] at *; rw [decide_eq_false_iff_not] at *; omega
theorem ltT_anti (x y : T4) (h1 : ltT x y = false) (h2 : ltT y x = false) : x = y := by
  rw [ltT_iff] at *; rw [decide_eq_false_iff_not] at *
  obtain ⟨a, b, c, d⟩ := x; obtain ⟨a', b', c', d'⟩ := y
  simp only [T4.mk.injEq]; dsimp only at h1 h2; omega
def sortT (ts : List T4) : List T4 := ts.mergeSort fun x y => !ltT y x
theorem sortT_perm (ts : List T4) : (sortT ts).Perm ts := List.mergeSort_perm _ _
theorem sortT_sorted (ts : List T4) : (sortT ts).Pairwise fun x y => ltT y x = false := by
  have := List.pairwise_mergeSort (le := fun x y => !ltT y x) (fun a b c h1 h2 => by simp only [Bool.not_eq_true'] at *; exact ltT_swo.ntrans _ _ _ h2 h1) (fun a b => by
    simp only [Bool.or_eq_true, Bool.not_eq_true']
    rcases Bool.eq_false_or_eq_true (ltT b a) with h | h
    · right; rw [ltT_iff] at *; rw [decide_eq_true_eq] at h; rw [decide_eq_false_iff_not]; omega
    · exact .inl h) ts
  exact this.imp (fun h => by simpa using h)
theorem sortT_length (ts : List T4) : (sortT ts).length = ts.length := (sortT_perm ts).length_eq
def encT (t : T4) : List Value := ints t.l
theorem flat_tcells (ts : List T4) : Go.Sort.flatK encT 4 ts.toArray = (tcells ts).toArray := by
  apply Array.ext
  · simp [tcells_length]
  · intro i h1 h2
    have hi : i < ts.length * 4 := by simpa using h1
    have hk : i / 4 < ts.length := by omega
    have e1 := tcells_get ts (i / 4) (i % 4) hk (by omega)
    rw [show i / 4 * 4 + i % 4 = i by omega] at e1
    have h2' : i < (tcells ts).length := by simpa using h2
    rw [List.getElem?_eq_getElem h2'] at e1
    have e2 := Go.Sort.get_flatK encT 4 ts.toArray i (by simpa using hi)
    rw [getElem!_pos (Go.Sort.flatK encT 4 ts.toArray) i h1] at e2
    rw [e2]
    have e3 : (ts.toArray)[i / 4]! = ts[i / 4] := by simp [hk]
    rw [e3]
    have e4 : (encT ts[i / 4])[i % 4]? = some (tcells ts)[i] := by rw [e1]; rfl
    rw [List.getElem!_eq_getElem?_getD, e4]
    simp
theorem holdsT {w : World} {g : Nat} {cur : Array Value} {e : TypeId} {ts : List T4} (hb : w.heap[g]? = some (.cells cur e (0, 0))) (ht : cur.toList.take (ts.length * 4) = tcells ts) : Go.Sort.HoldsK encT 4 w g 0 ts.toArray := by
  unfold Go.Sort.HoldsK
  rw [flat_tcells]
  intro j hj
  have hj' : j < (tcells ts).length := by simpa using hj
  refine ⟨?_, by simp [World.frozen?, hb]⟩
  have h1 : (cur.toList.take (ts.length * 4))[j]? = (tcells ts)[j]? := by rw [ht]
  rw [List.getElem?_take_of_lt (by rw [← tcells_length]; exact hj')] at h1
  simp only [World.cell?, hb, Nat.zero_add]
  simp only [Option.isSome_none, Bool.false_eq_true, if_false]
  rw [← Array.getElem?_toList, h1, List.getElem?_eq_getElem hj']
  simp [hj']
theorem heap_sortT {w : World} {g n : Nat} {os : Array Obj} {cur : Array Value} {e : TypeId} {fr : Nat × Nat} (d : Array Value) (hb : w.heap[g]? = some (.cells cur e fr)) :
    (Go.Sort.grow (Go.Sort.putRow id (Go.Sort.ahead w n) g 0 d) os).heap[g]? = some (.cells (Go.Sort.putCells id 0 d cur) e fr) := by
  have hg : g < w.heap.size := (Array.getElem?_eq_some_iff.1 hb).1
  rw [Go.Sort.heap_grow_old _ _ (by simpa using hg)]
  simp [Go.Sort.putRow, Go.Sort.mapBlock, Go.Sort.ahead, Array.getElem?_modify, hb, Go.Sort.onCells]
theorem grownBy_sortT {w : World} {g n : Nat} {os : Array Obj} (d : Array Value) : w.grownBy (Go.Sort.grow (Go.Sort.putRow id (Go.Sort.ahead w n) g 0 d) os) (some g) := by
  refine ⟨rfl, rfl, rfl, by simp, fun k hk hne => ?_⟩
  rw [Go.Sort.heap_grow_old _ _ (by simpa using hk)]
  have : g ≠ k := fun e => hne (by rw [e])
  simp [Go.Sort.putRow, Go.Sort.mapBlock, Go.Sort.ahead, Array.getElem?_modify, this]
theorem take_putT (cur : Array Value) (cs : List Value) (h : cs.length ≤ cur.size) : (Go.Sort.putCells id 0 cs.toArray cur).toList.take cs.length = cs := by
  apply List.ext_getElem?
  intro j
  by_cases hj : j < cs.length
  · rw [List.getElem?_take_of_lt hj, Array.getElem?_toList]
    simp [Go.Sort.putCells, hj, show j < cur.size by omega]
  · rw [List.getElem?_take_eq_none (by omega), List.getElem?_eq_none (by omega)]
set_option maxRecDepth 100000 in
set_option maxHeartbeats 1000000 in
theorem compare_g (s t : T4) (w : World) :
    Calls Try.prog 78 #[.agg #[.int .i64 s.a, .int .i64 s.b, .int .i64 s.c, .int .i64 s.d], .agg #[.int .i64 t.a, .int .i64 t.b, .int .i64 t.c, .int .i64 t.d]] w fun e w' =>
      e = .returned (.int .i64 (cmpT s t)) ∧ ∃ q os', w' = Go.Sort.grow (w.drewN q) os' := by
  go_enter Try.func78, Try.ntmps78
  go_wp2_with fail
  go_still_tail 2, (by kernel_rfl)
  go_wp2_with fail
  refine (slicesCompare_c s.l t.l _ _ 4 4 _ ?_ ?_ (by simp [T4.l]) (by simp [T4.l])).mono ?_
  · exact cells4 (by show World.cell? ((w.alloc _).alloc _) _ = _; simp) (by show World.cell? ((w.alloc _).alloc _) _ = _; simp) (by show World.cell? ((w.alloc _).alloc _) _ = _; simp) (by show World.cell? ((w.alloc _).alloc _) _ = _; simp)
  · exact cells4 (by show World.cell? ((w.alloc _).alloc _) _ = _; simp) (by show World.cell? ((w.alloc _).alloc _) _ = _; simp) (by show World.cell? ((w.alloc _).alloc _) _ = _; simp) (by show World.cell? ((w.alloc _).alloc _) _ = _; simp)
  · rintro e w1 ⟨rfl, rfl⟩
    go_wp2
    go_ret
    exact ⟨rfl, 1, _, by rw [Go.Sort.alloc_eq_grow, Go.Sort.alloc_eq_grow, Go.Sort.grow_grow]; rfl⟩
set_option maxHeartbeats 1000000 in
/-- slices.SortFunc at tiles, by their order -/
theorem sortFuncT_c (ts : List T4) (g cap : Nat) (cur : Array Value) (w : World) (hb : w.heap[g]? = some (.cells cur 57 (0, 0))) (ht : cur.toList.take (ts.length * 4) = tcells ts) (hl : ts.length ≤ 1000000000) :
    Calls Try.prog 128 #[.slice (some ⟨g, 0, none⟩) ts.length cap, .func (.func 78) #[] #[]] w fun e w' =>
      e = .returned (.tuple #[]) ∧ w.grownBy w' (some g) ∧ w'.heap[g]? = some (.cells (Go.Sort.putCells id 0 (tcells (sortT ts)).toArray cur) 57 (0, 0)) := by
  have eg : ∀ args w, (callFunc 78 args).run Try.prog w = .ok (.enter 78 args) w := enters_of Try.func78 (by kernel_rfl) rfl
  have hO : Go.Sort.SWO (ltOf cmpT) := ltT_swo
  have hcon := AnyQ.slices_SortFunc sortTiles 4 Try.isAgg57 Try.sizeOf57 encT (fun _ => rfl) (fun x v hv => by simp [encT, ints, T4.l] at hv; rcases hv with rfl | rfl | rfl | rfl <;> rfl) cmpT hO 78 #[] g 0 cap ts.toArray w eg (fun _ _ _ _ x y => compare_g x y _) (holdsT hb ht) (Array.getElem?_eq_some_iff.1 hb).1 (by simp; omega)
  change Calls Try.prog 128 _ _ _ at hcon
  simp only [List.size_toArray] at hcon
  refine hcon.mono ?_
  rintro e w' ⟨rfl, d', n, os, hp, hs, rfl⟩
  have hd : d'.toList = sortT ts := by
    have := Go.Sort.sorted_unique_holds (lt := ltT) ltT_swo (fun x y => ltT_anti x y) ts.toArray d' (by rw [List.size_toArray]; exact hp) (by rw [List.size_toArray]; exact hs)
    simpa [sortT] using this
  have hd' : d' = (sortT ts).toArray := by rw [← hd]
  subst hd'
  unfold sortWorldK Go.Sort.putRowK
  rw [flat_tcells]
  exact ⟨rfl, grownBy_sortT _, heap_sortT _ hb⟩
theorem OwnT.parts {w : World} {B : Nat} {v : Value} {ts : List T4} (h : OwnT w B v ts) (hne : 0 < ts.length) : ∃ g cap cur, v = .slice (some ⟨g, 0, none⟩) ts.length cap ∧ B ≤ g ∧ w.heap[g]? = some (.cells cur 57 (0, 0)) ∧ ts.length ≤ cap ∧ cap ≤ maxLen ∧ cur.size = cap * 4 ∧ cur.toList.take (ts.length * 4) = tcells ts := by
  obtain ⟨h1, ⟨_, h2⟩ | ⟨g, cap, cur, h2⟩⟩ := h
  · omega
  · exact ⟨g, cap, cur, h2⟩
theorem OwnT.tiles {w : World} {B : Nat} {v : Value} {ts : List T4} (h : OwnT w B v ts) : ∃ A cx, v = .slice A ts.length cx ∧ TileCells w A ts := by
  obtain ⟨h1, ⟨h3, h2⟩ | ⟨g, cap, cur, rfl, hB, hb, h3, h4, h5, h6⟩⟩ := h
  · exact ⟨none, 0, by rw [h3, h2], fun k hk => by omega⟩
  · refine ⟨some ⟨g, 0, none⟩, cap, rfl, fun k hk => ⟨g, 0, rfl, (Array.getElem?_eq_some_iff.1 hb).1, ?_⟩⟩
    have q : ∀ j, j < 4 → w.cell? ⟨g, 0 + k * 4 + j, none⟩ = [Value.int .i64 ts[k].a, .int .i64 ts[k].b, .int .i64 ts[k].c, .int .i64 ts[k].d][j]? := by
      intro j hj
      rw [← tcells_get ts k j hk hj, ← h6, List.getElem?_take_of_lt (by omega)]
      simp [World.cell?, hb]
    exact ⟨q 0 (by omega), q 1 (by omega), q 2 (by omega), q 3 (by omega)⟩
theorem OwnT.below {w w1 : World} {B : Nat} {v : Value} {ts : List T4} (h : OwnT w B v ts) (hb : Below w.heap.size w w1) : OwnT w1 B v ts :=
  World.ownsRow.kept (row := none) h ⟨hb.os, hb.tape, hb.output, hb.size, fun k hk _ => hb.block k hk⟩ (by cases h : v.ownBlock with | none => exact .inl rfl | some k => exact .inr (by simp))
theorem OwnT.sorted {w1 : World} {B g cap : Nat} {cur : Array Value} {ts : List T4} (hB : B ≤ g) (h1 : ts.length ≤ cap) (h2 : cap ≤ maxLen) (h3 : cur.size = cap * 4)
    (hb : w1.heap[g]? = some (.cells (Go.Sort.putCells id 0 (tcells (sortT ts)).toArray cur) 57 (0, 0))) : OwnT w1 B (.slice (some ⟨g, 0, none⟩) ts.length cap) (sortT ts) := by
  have hl := sortT_length ts
  refine ⟨tcells_length _, .inr ⟨g, cap, _, by rw [hl], hB, hb, by omega, h2, by simp [Go.Sort.putCells, h3], ?_⟩⟩
  rw [← tcells_length]
  exact take_putT cur _ (by rw [tcells_length, h3]; omega)
theorem sortFuncO_c (ts : List T4) (B : Nat) (v : Value) (w : World) (hO : OwnT w B v ts) (hl : ts.length ≤ 1000000000) :
    Calls Try.prog 128 #[v, .func (.func 78) #[] #[]] w fun e w' =>
      e = .returned (.tuple #[]) ∧ OwnT w' B v (sortT ts) ∧ w.grownBy w' v.ownBlock := by
  by_cases h0 : 0 < ts.length
  · obtain ⟨g, cap, cur, rfl, hB, hb, h1, h2, h3, h4⟩ := hO.parts h0
    refine (sortFuncT_c ts g cap cur w hb h4 hl).mono ?_
    rintro e w' ⟨rfl, hg, hb'⟩
    exact ⟨rfl, OwnT.sorted hB h1 h2 h3 hb', hg⟩
  · obtain rfl : ts = [] := List.length_eq_zero_iff.1 (by omega)
    obtain ⟨A, cx, rfl, _⟩ := hO.tiles
    have hcon := AnyF.slices_SortFunc_none sortTiles A cx (.func (.func 78) #[] #[]) w
    change Calls Try.prog 128 _ _ _ at hcon
    refine hcon.mono ?_
    rintro e w' ⟨rfl, rfl⟩
    exact ⟨rfl, by rw [show sortT [] = [] by simp [sortT]]; exact hO, ⟨rfl, rfl, rfl, Nat.le_refl _, fun _ _ _ => rfl⟩⟩

end Go.Proofs.Ytfkmophmiiehlaa
