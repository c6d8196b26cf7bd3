/- Contracts and lemmas for the statements of this seat, written for this claim; each theorem states its own conditions. -/
import Derived.Shelf.SlSortCmp.Whole1
import Derived.Shelf.SlSortCmp.NoneTotal
import Derived.Sort.LotA
import Derived.Test.YtkgnejhflnekaaaGreatNgQ4
import Derived.Test.YtkgnejhflnekaaaGreatNgAp
import Derived.Test.YtkgnejhflnekaaaGreatNgL1
set_option linter.unusedVariables false
set_option linter.unusedSimpArgs false
namespace Go.Proofs.YtkgnejhflnekaaaGreat
open Go.RowKit
def sortRows_ren : Go.Shelf.Ren := ⟨fun | 6 => 100 | 15 => 180 | 14 => 179 | 28 => 212 | 29 => 213 | 20 => 204 | 21 => 205 | 22 => 206 | 23 => 207 | 24 => 208 | 25 => 209 | 26 => 210 | 27 => 211 | 46 => 222 | 47 => 223 | 48 => 224 | 49 => 225 | 50 => 226 | 57 => 230 | n => n, fun | 22 => 29 | 24 => 35 | 25 => 116 | 3 => 3 | 39 => 150 | 0 => 0 | 53 => 198 | 55 => 51 | 4 => 4 | 46 => 191 | 45 => 190 | 50 => 195 | 5 => 5 | 9 => 9 | 66 => 208 | 70 => 212 | 76 => 218 | 77 => 219 | n => n, fun | n => n⟩
theorem sortRows : Go.Proofs.SlLaysF.n6 Tryz.prog sortRows_ren := {
  mixed := by kernel_rfl
  f6 := ⟨Tryz.f100.name, by decide, Tryz.func100.trans (congrArg some (by kernel_rfl))⟩
  f14 := ⟨Tryz.f179.name, by decide, Tryz.func179.trans (congrArg some (by kernel_rfl))⟩
  f15 := Tryz.func180.trans (congrArg some (by kernel_rfl))
  f20 := ⟨Tryz.f204.name, by decide, Tryz.func204.trans (congrArg some (by kernel_rfl))⟩
  f21 := ⟨Tryz.f205.name, by decide, Tryz.func205.trans (congrArg some (by kernel_rfl))⟩
  f22 := ⟨Tryz.f206.name, by decide, Tryz.func206.trans (congrArg some (by kernel_rfl))⟩
  f23 := ⟨Tryz.f207.name, by decide, Tryz.func207.trans (congrArg some (by kernel_rfl))⟩
  f24 := ⟨Tryz.f208.name, by decide, Tryz.func208.trans (congrArg some (by kernel_rfl))⟩
  f25 := ⟨Tryz.f209.name, by decide, Tryz.func209.trans (congrArg some (by kernel_rfl))⟩
  f26 := ⟨Tryz.f210.name, by decide, Tryz.func210.trans (congrArg some (by kernel_rfl))⟩
  f27 := ⟨Tryz.f211.name, by decide, Tryz.func211.trans (congrArg some (by kernel_rfl))⟩
  f28 := Tryz.func212.trans (congrArg some (by kernel_rfl))
  f29 := Tryz.func213.trans (congrArg some (by kernel_rfl))
  f46 := ⟨Tryz.f222.name, by decide, Tryz.func222.trans (congrArg some (by kernel_rfl))⟩
  f47 := Tryz.func223.trans (congrArg some (by kernel_rfl))
  f48 := Tryz.func224.trans (congrArg some (by kernel_rfl))
  f49 := ⟨Tryz.f225.name, by decide, Tryz.func225.trans (congrArg some (by kernel_rfl))⟩
  f50 := ⟨Tryz.f226.name, by decide, Tryz.func226.trans (congrArg some (by kernel_rfl))⟩
  f57 := ⟨Tryz.f230.name, by decide, Tryz.func230.trans (congrArg some (by kernel_rfl))⟩
  t0 := Tryz.underlying0
  a0 := Tryz.isAgg0
  z0 := Tryz.sizeOf0
  v0 := Tryz.zeroValue0
  t3 := Tryz.underlying3
  a3 := Tryz.isAgg3
  z3 := Tryz.sizeOf3
  v3 := Tryz.zeroValue3
  t4 := Tryz.underlying4
  a4 := Tryz.isAgg4
  z4 := Tryz.sizeOf4
  v4 := Tryz.zeroValue4
  t5 := Tryz.underlying5
  a5 := Tryz.isAgg5
  z5 := Tryz.sizeOf5
  v5 := Tryz.zeroValue5
  t9 := Tryz.underlying9
  a9 := Tryz.isAgg9
  z9 := Tryz.sizeOf9
  v9 := Tryz.zeroValue9
  t22 := Tryz.underlying29
  a22 := Tryz.isAgg29
  z22 := Tryz.sizeOf29
  v22 := Tryz.zeroValue29
  a24 := Tryz.isAgg35
  z24 := Tryz.sizeOf35
  t25 := Tryz.underlying116
  a25 := Tryz.isAgg116
  z25 := Tryz.sizeOf116
  v25 := Tryz.zeroValue116
  t39 := Tryz.underlying150
  a39 := Tryz.isAgg150
  z39 := Tryz.sizeOf150
  v39 := Tryz.zeroValue150
  t45 := Tryz.underlying190
  a45 := Tryz.isAgg190
  z45 := Tryz.sizeOf190
  v45 := Tryz.zeroValue190
  t46 := Tryz.underlying191
  a46 := Tryz.isAgg191
  z46 := Tryz.sizeOf191
  v46 := Tryz.zeroValue191
  t50 := Tryz.underlying195
  a50 := Tryz.isAgg195
  z50 := Tryz.sizeOf195
  v50 := Tryz.zeroValue195
  t53 := Tryz.underlying198
  a53 := Tryz.isAgg198
  z53 := Tryz.sizeOf198
  v53 := Tryz.zeroValue198
  t55 := Tryz.underlying51
  a55 := Tryz.isAgg51
  z55 := Tryz.sizeOf51
  v55 := Tryz.zeroValue51
  t66 := Tryz.underlying208
  a66 := Tryz.isAgg208
  z66 := Tryz.sizeOf208
  v66 := Tryz.zeroValue208
  t70 := Tryz.underlying212
  a70 := Tryz.isAgg212
  z70 := Tryz.sizeOf212
  v70 := Tryz.zeroValue212
  t76 := Tryz.underlying218
  a76 := Tryz.isAgg218
  z76 := Tryz.sizeOf218
  v76 := Tryz.zeroValue218
  t77 := Tryz.underlying219
  a77 := Tryz.isAgg219
  z77 := Tryz.sizeOf219
  v77 := Tryz.zeroValue219 }
theorem cmpRows_c (xs ys : List Int) (A B : Option Addr) (cx cy : Nat) (w : World) (hx : Cells w A (ints xs)) (hy : Cells w B (ints ys)) (lx : xs.length ≤ 1000000000) (ly : ys.length ≤ 1000000000) :
    Calls Tryz.prog 101 #[.slice A xs.length cx, .slice B ys.length cy] w fun e w' => e = .returned (.int .i64 (cmpL xs ys)) ∧ w = w' := by
  go_enter Tryz.func101, Tryz.ntmps101
  go_wp2_with fail
  refine (slicesCompare_c xs ys A B cx cy w hx hy lx ly).mono ?_
  rintro e w1 ⟨rfl, rfl⟩
  go_wp2
  go_ret
  exact ⟨rfl, rfl⟩
theorem cmpL_row (x y : P22) : decide (cmpL (prow x) (prow y) < 0) = ltP x y := by
  unfold ltP
  refine decide_eq_decide.2 ?_
  simp only [prow, cmpL, cmpI]
  repeat split
  all_goals omega
theorem ltP_iff (x y : P22) : ltP x y = decide (x.1 < y.1 ∨ x.1 = y.1 ∧ x.2 < y.2) := rfl
theorem ltP_swo : Go.Sort.SWO ltP where
  irrefl x := by rw [ltP_iff]; simp
  trans x y z h1 h2 := by rw [ltP_iff] at *; rw [decide_eq_true_eq] at *; omega
  ntrans x y z h1 h2 := by rw [ltP_iff] at *; rw [decide_eq_false_iff_not] at *; omega
theorem ltP_anti (x y : P22) (h1 : ltP x y = false) (h2 : ltP y x = false) : x = y := by
  rw [ltP_iff] at *; rw [decide_eq_false_iff_not] at *
  obtain ⟨a, b⟩ := x; obtain ⟨a', b'⟩ := y
  simp only [Prod.mk.injEq]; dsimp only at h1 h2; omega
theorem sortWorld_grownBy {α : Type} [Inhabited α] {enc : α → Value} {w : World} {g m : Nat} {dk : Array α} {os : Array Obj} : w.grownBy (sortWorld enc w g 0 m dk os) (some g) := by
  unfold sortWorld
  refine ⟨rfl, rfl, rfl, by simp, fun k hk hne => ?_⟩
  rw [Go.Sort.heap_grow_old _ _ (by simpa using hk)]
  have : g ≠ k := fun e => hne (by rw [e])
  simp [Go.Sort.putRow, Go.Sort.mapBlock, Go.Sort.ahead, Array.getElem?_modify, this]
theorem sortWorld_block {α : Type} [Inhabited α] {enc : α → Value} {w : World} {g m : Nat} {dk : Array α} {os : Array Obj} {cur : Array Value} {e : TypeId} {fr : Nat × Nat} (hb : w.heap[g]? = some (.cells cur e fr)) :
    (sortWorld enc w g 0 m dk os).heap[g]? = some (.cells (Go.Sort.putCells enc 0 dk cur) e fr) := by
  unfold sortWorld
  have hg : g < w.heap.size := (Array.getElem?_eq_some_iff.1 hb).1
  rw [Go.Sort.heap_grow_old _ _ (by simpa using hg)]
  simp [Go.Sort.putRow, Go.Sort.mapBlock, Go.Sort.ahead, Array.getElem?_modify, hb, Go.Sort.onCells]
theorem take_putE {α : Type} [Inhabited α] (enc : α → Value) (cur : Array Value) (dk : Array α) (h : dk.size ≤ cur.size) : (Go.Sort.putCells enc 0 dk cur).toList.take dk.size = dk.toList.map enc := by
  apply List.ext_getElem?
  intro j
  by_cases hj : j < dk.size
  · rw [List.getElem?_take_of_lt hj, Array.getElem?_toList]
    simp [Go.Sort.putCells, hj, show j < cur.size by omega]
  · rw [List.getElem?_take_eq_none (by omega), List.getElem?_eq_none (by simp; omega)]
theorem nodup_ofFnId (n : Nat) : (List.ofFn (n := n) id).Nodup := by
  refine List.pairwise_iff_getElem.2 fun i j hi hj hij e => ?_
  simp at e
  omega
set_option maxHeartbeats 1000000 in
/-- slices.SortFunc at an owned list of pairs, each pair once -/
theorem sortRowsX_c (list : List P22) (B : Nat) (X : Nat → Prop) (v : Value) (w : World) (hO : OwnIX w B X v (prows list)) (hnd : list.Nodup) (hl : list.length ≤ 1000000) (h0 : 0 < list.length) :
    Calls Tryz.prog 100 #[v, .func (.func 101) #[] #[]] w fun e w' =>
      e = .returned (.tuple #[]) ∧ (∃ list', list'.Perm list ∧ list'.Pairwise (fun x y => ltP y x = false) ∧ OwnIX w' B X v (prows list')) ∧ w.grownBy w' v.ownBlock := by
  have eg : ∀ args w, (callFunc 101 args).run Tryz.prog w = .ok (.enter 101 args) w := enters_of Tryz.func101 (by kernel_rfl) rfl
  obtain ⟨vs, h1, h2, h3, h4, h5, h6⟩ := hO
  rw [prows_length] at h1
  obtain ⟨hvl, ⟨_, h⟩ | ⟨g, cap, cur, rfl, hB, hb, k1, k2, k3, k4⟩⟩ := h1
  · omega
  rw [Nat.mul_one] at hvl k3 k4
  have hn : Nonempty (Fin list.length) := ⟨⟨0, h0⟩⟩
  letI : Inhabited (Fin list.length) := ⟨⟨0, h0⟩⟩
  have hpl := prows_length list
  have hrow : ∀ i : Fin list.length, OwnI w B (vs[i.1]'(by rw [hvl]; exact i.2)) (prow list[i.1]) := fun i => by
    have := h2 i.1 (by rw [hvl]; exact i.2) (by rw [hpl]; exact i.2)
    simpa [prows] using this
  let enc : Fin list.length → Value := fun i => vs[i.1]'(by rw [hvl]; exact i.2)
  have henc : ∀ i, OwnI w B (enc i) (prow list[i.1]) := hrow
  have h1c : OneCell enc := fun i => by
    obtain ⟨A, cx, e, _⟩ := (henc i).shape
    rw [e]; rfl
  let cf : Fin list.length → Fin list.length → Int := fun i j => cmpL (prow list[i.1]) (prow list[j.1])
  have hlt : ∀ i j, ltOf cf i j = ltP list[i.1] list[j.1] := fun i j => cmpL_row _ _
  have hSWO : Go.Sort.SWO (ltOf cf) := ⟨fun x => by rw [hlt]; exact ltP_swo.irrefl _, fun x y z a b => by rw [hlt] at *; exact ltP_swo.trans _ _ _ a b, fun x y z a b => by rw [hlt] at *; exact ltP_swo.ntrans _ _ _ a b⟩
  have hcmp : CmpLays1 Tryz.prog 101 #[] enc cf g 0 (Array.ofFn (n := list.length) id).size w := fun m os dk _ x y => by
    have hx := (henc x).grown (sortWorld_grownBy (enc := enc) (w := w) (g := g) (m := m) (dk := dk) (os := os)) (h4 x.1 (by rw [hvl]; exact x.2))
    have hy := (henc y).grown (sortWorld_grownBy (enc := enc) (w := w) (g := g) (m := m) (dk := dk) (os := os)) (h4 y.1 (by rw [hvl]; exact y.2))
    obtain ⟨A, cx, ex, hcx, _⟩ := hx.shape
    obtain ⟨A', cx', ey, hcy, _⟩ := hy.shape
    rw [ex, ey]
    refine (cmpRows_c _ _ A A' cx cx' _ hcx hcy (by simp [prow]) (by simp [prow])).mono ?_
    rintro e w' ⟨rfl, rfl⟩
    exact ⟨rfl, 0, #[], by rw [Go.Sort.grow_empty]; rfl⟩
  have hH : Go.Sort.Holds enc w g 0 (Array.ofFn (n := list.length) id) := fun j hj => by
    have hj' : j < list.length := by simpa using hj
    refine ⟨?_, by simp [World.frozen?, hb]⟩
    simp only [World.cell?, hb, Nat.zero_add]
    simp only [Option.isSome_none, Bool.false_eq_true, if_false]
    have e1 : (cur.toList.take list.length)[j]? = vs[j]? := by rw [k4]
    rw [List.getElem?_take_of_lt hj'] at e1
    rw [← Array.getElem?_toList, e1, List.getElem?_eq_getElem (by rw [hvl]; exact hj')]
    simp [hj', enc]
  have hcon := Any.slices_SortFunc sortRows enc h1c cf hSWO 101 #[] g 0 cap (Array.ofFn (n := list.length) id) w eg hcmp hH (Array.getElem?_eq_some_iff.1 hb).1 (by simp; omega)
  change Calls Tryz.prog 100 _ _ _ at hcon
  rw [Array.size_ofFn] at hcon
  refine hcon.mono ?_
  rintro e w' ⟨rfl, d', n, os, hp, hs, rfl⟩
  have hsz : d'.size = list.length := by have := hp.1; simpa using this
  have hperm : d'.toList.Perm (List.ofFn (n := list.length) id) := by
    have := hp.2.2
    rw [Array.extract_eq_self_of_le (by omega), Array.extract_eq_self_of_le (by simp)] at this
    simpa using this
  have hnd' : d'.toList.Nodup := hperm.nodup_iff.2 (nodup_ofFnId _)
  have hdl : d'.toList.length = list.length := by simpa using hsz
  have hget : ∀ i (hi : i < list.length), d'[i]! = d'.toList[i]'(by omega) := fun i hi => by
    have : i < d'.size := by omega
    simp [this]
  refine ⟨rfl, ⟨d'.toList.map fun i => list[i.1], ?_, ?_, ?_⟩, sortWorld_grownBy⟩
  · refine (hperm.map _).trans (.of_eq ?_)
    rw [List.map_ofFn]
    exact List.ofFn_getElem
  · rw [List.pairwise_iff_getElem]
    intro i j hi hj hij
    simp only [List.length_map] at hi hj
    have := hs i j (Nat.zero_le _) hij (by omega)
    rw [hlt, hget i (by omega), hget j (by omega)] at this
    simpa only [List.getElem_map] using this
  · have hpr : ∀ i (hi : i < d'.toList.length) (hi' : i < (prows (d'.toList.map fun i => list[i.1])).length), (prows (d'.toList.map fun i => list[i.1]))[i] = prow list[(d'.toList[i]).1] := fun i hi hi' => by simp [prows]
    have hdn : ∀ i j (hi : i < d'.toList.length) (hj : j < d'.toList.length), i ≠ j → (d'.toList[i]).1 ≠ (d'.toList[j]).1 := fun i j hi hj hij e => hij ((List.getElem_inj hnd').1 (Fin.ext e))
    have hl' : (prows (d'.toList.map fun i => list[i.1])).length = list.length := by rw [prows_length, List.length_map, hdl]
    refine ⟨d'.toList.map enc, ?_, fun i hi hi' => ?_, fun i j hi hj hij => ?_, fun i hi => ?_, h5, fun i hi k hk => ?_⟩
    · rw [hl']
      refine ⟨by simp [hsz], .inr ⟨g, cap, Go.Sort.putCells enc 0 d' cur, rfl, hB, sortWorld_block hb, by omega, k2, ?_, ?_⟩⟩
      · simp [Go.Sort.putCells, k3]
      · rw [Nat.mul_one]
        have := take_putE enc cur d' (by omega)
        rwa [hsz] at this
    · have hi2 : i < d'.toList.length := by simpa using hi
      rw [hpr i hi2 hi', List.getElem_map]
      exact (henc _).grown sortWorld_grownBy (h4 _ (by rw [hvl]; exact (d'.toList[i]).2))
    · have hi2 : i < d'.toList.length := by simpa using hi
      have hj2 : j < d'.toList.length := by simpa using hj
      rw [List.getElem_map, List.getElem_map]
      exact h3 _ _ (by rw [hvl]; exact (d'.toList[i]).2) (by rw [hvl]; exact (d'.toList[j]).2) (hdn i j hi2 hj2 hij)
    · have hi2 : i < d'.toList.length := by simpa using hi
      rw [List.getElem_map]
      exact h4 _ (by rw [hvl]; exact (d'.toList[i]).2)
    · have hi2 : i < d'.toList.length := by simpa using hi
      rw [List.getElem_map] at hk
      exact h6 _ (by rw [hvl]; exact (d'.toList[i]).2) k hk

end Go.Proofs.YtkgnejhflnekaaaGreat
