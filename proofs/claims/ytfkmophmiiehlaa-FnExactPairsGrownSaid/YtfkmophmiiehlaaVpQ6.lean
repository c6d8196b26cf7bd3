/- Contracts and lemmas for the statements of this seat, written for this claim; each theorem states its own conditions. -/
import Derived.Shelf.SlSortCmp.Whole1
import Derived.Shelf.SlSortCmp.NoneTotal
import Derived.Sort.LotA
import Derived.Test.YtfkmophmiiehlaaVpQ5
import Derived.Test.YtfkmophmiiehlaaVpSl
import Derived.Test.YtfkmophmiiehlaaVpL1
set_option linter.unusedVariables false
set_option linter.unusedSimpArgs false
namespace Go.Proofs.Ytfkmophmiiehlaa
open Go.RowKit
def sortRows_ren : Go.Shelf.Ren := ⟨fun | 6 => 102 | 15 => 138 | 14 => 137 | 28 => 166 | 29 => 167 | 20 => 158 | 21 => 159 | 22 => 160 | 23 => 161 | 24 => 162 | 25 => 163 | 26 => 164 | 27 => 165 | 46 => 182 | 47 => 183 | 48 => 184 | 49 => 185 | 50 => 186 | 57 => 190 | n => n, fun | 22 => 26 | 24 => 63 | 25 => 121 | 3 => 3 | 39 => 158 | 0 => 0 | 53 => 185 | 55 => 187 | 4 => 4 | 46 => 178 | 45 => 177 | 50 => 182 | 5 => 5 | 9 => 9 | 66 => 199 | 70 => 203 | 76 => 207 | 77 => 208 | n => n, fun | n => n⟩
theorem sortRows : Go.Proofs.SlLaysF.n6 Try.prog sortRows_ren := {
  mixed := by kernel_rfl
  f6 := ⟨Try.f102.name, by decide, Try.func102.trans (congrArg some (by kernel_rfl))⟩
  f14 := ⟨Try.f137.name, by decide, Try.func137.trans (congrArg some (by kernel_rfl))⟩
  f15 := Try.func138.trans (congrArg some (by kernel_rfl))
  f20 := ⟨Try.f158.name, by decide, Try.func158.trans (congrArg some (by kernel_rfl))⟩
  f21 := ⟨Try.f159.name, by decide, Try.func159.trans (congrArg some (by kernel_rfl))⟩
  f22 := ⟨Try.f160.name, by decide, Try.func160.trans (congrArg some (by kernel_rfl))⟩
  f23 := ⟨Try.f161.name, by decide, Try.func161.trans (congrArg some (by kernel_rfl))⟩
  f24 := ⟨Try.f162.name, by decide, Try.func162.trans (congrArg some (by kernel_rfl))⟩
  f25 := ⟨Try.f163.name, by decide, Try.func163.trans (congrArg some (by kernel_rfl))⟩
  f26 := ⟨Try.f164.name, by decide, Try.func164.trans (congrArg some (by kernel_rfl))⟩
  f27 := ⟨Try.f165.name, by decide, Try.func165.trans (congrArg some (by kernel_rfl))⟩
  f28 := Try.func166.trans (congrArg some (by kernel_rfl))
  f29 := Try.func167.trans (congrArg some (by kernel_rfl))
  f46 := ⟨Try.f182.name, by decide, Try.func182.trans (congrArg some (by kernel_rfl))⟩
  f47 := Try.func183.trans (congrArg some (by kernel_rfl))
  f48 := Try.func184.trans (congrArg some (by kernel_rfl))
  f49 := ⟨Try.f185.name, by decide, Try.func185.trans (congrArg some (by kernel_rfl))⟩
  f50 := ⟨Try.f186.name, by decide, Try.func186.trans (congrArg some (by kernel_rfl))⟩
  f57 := ⟨Try.f190.name, by decide, Try.func190.trans (congrArg some (by kernel_rfl))⟩
  t0 := Try.underlying0
  a0 := Try.isAgg0
  z0 := Try.sizeOf0
  v0 := Try.zeroValue0
  t3 := Try.underlying3
  a3 := Try.isAgg3
  z3 := Try.sizeOf3
  v3 := Try.zeroValue3
  t4 := Try.underlying4
  a4 := Try.isAgg4
  z4 := Try.sizeOf4
  v4 := Try.zeroValue4
  t5 := Try.underlying5
  a5 := Try.isAgg5
  z5 := Try.sizeOf5
  v5 := Try.zeroValue5
  t9 := Try.underlying9
  a9 := Try.isAgg9
  z9 := Try.sizeOf9
  v9 := Try.zeroValue9
  t22 := Try.underlying26
  a22 := Try.isAgg26
  z22 := Try.sizeOf26
  v22 := Try.zeroValue26
  a24 := Try.isAgg63
  z24 := Try.sizeOf63
  t25 := Try.underlying121
  a25 := Try.isAgg121
  z25 := Try.sizeOf121
  v25 := Try.zeroValue121
  t39 := Try.underlying158
  a39 := Try.isAgg158
  z39 := Try.sizeOf158
  v39 := Try.zeroValue158
  t45 := Try.underlying177
  a45 := Try.isAgg177
  z45 := Try.sizeOf177
  v45 := Try.zeroValue177
  t46 := Try.underlying178
  a46 := Try.isAgg178
  z46 := Try.sizeOf178
  v46 := Try.zeroValue178
  t50 := Try.underlying182
  a50 := Try.isAgg182
  z50 := Try.sizeOf182
  v50 := Try.zeroValue182
  t53 := Try.underlying185
  a53 := Try.isAgg185
  z53 := Try.sizeOf185
  v53 := Try.zeroValue185
  t55 := Try.underlying187
  a55 := Try.isAgg187
  z55 := Try.sizeOf187
  v55 := Try.zeroValue187
  t66 := Try.underlying199
  a66 := Try.isAgg199
  z66 := Try.sizeOf199
  v66 := Try.zeroValue199
  t70 := Try.underlying203
  a70 := Try.isAgg203
  z70 := Try.sizeOf203
  v70 := Try.zeroValue203
  t76 := Try.underlying207
  a76 := Try.isAgg207
  z76 := Try.sizeOf207
  v76 := Try.zeroValue207
  t77 := Try.underlying208
  a77 := Try.isAgg208
  z77 := Try.sizeOf208
  v77 := Try.zeroValue208 }
theorem cmpRows_c (xs ys : List Int) (A B : Option Addr) (cx cy : Nat) (w : World) (hx : Cells w A (ints xs)) (hy : Cells w B (ints ys)) (lx : xs.length ≤ 1000000000) (ly : ys.length ≤ 1000000000) :
    Calls Try.prog 103 #[.slice A xs.length cx, .slice B ys.length cy] w fun e w' => e = .returned (.int .i64 (cmpL xs ys)) ∧ w = w' := by
  go_enter Try.func103, Try.ntmps103
  go_wp2_with fail
  refine (slicesCompare_c xs ys A B cx cy w hx hy lx ly).mono ?_
  rintro e w1 ⟨rfl, rfl⟩
  go_wp2
  go_ret
  exact ⟨rfl, rfl⟩
theorem cmpL_row (x y : P22) : decide (cmpL (prow x) (prow y) < 0) = ltP x y := by
  unfold ltP
  refine decide_eq_decide.2 ?_
  simp only [prow, cmpL, cmpI]
  repeat split
  all_goals omega
theorem ltP_iff (x y : P22) : ltP x y = decide (x.1 < y.1 ∨ x.1 = y.1 ∧ x.2 < y.2) := rfl
theorem ltP_swo : Go.Sort.SWO ltP where
  irrefl x := by rw [ltP_iff]; simp
  trans x y z h1 h2 := by rw [ltP_iff] at *; rw [decide_eq_true_eq] at *; omega
  ntrans x y z h1 h2 := by rw [ltP_iff] at *; rw [decide_eq_false_iff_not] at *; omega
theorem ltP_anti (x y : P22) (h1 : ltP x y = false) (h2 : ltP y x = false) : x = y := by
  rw [ltP_iff] at *; rw [decide_eq_false_iff_not] at *
  obtain ⟨a, b⟩ := x; obtain ⟨a', b'⟩ := y
  simp only [Prod.mk.injEq]; dsimp only at h1 h2; omega
theorem sortWorld_grownBy {α : Type} [Inhabited α] {enc : α → Value} {w : World} {g m : Nat} {dk : Array α} {os : Array Obj} : w.grownBy (sortWorld enc w g 0 m dk os) (some g) := by
  unfold sortWorld
  refine ⟨rfl, rfl, rfl, by simp, fun k hk hne => ?_⟩
  rw [Go.Sort.heap_grow_old _ _ (by simpa using hk)]
  have : g ≠ k := fun e => hne (by rw [e])
  simp [Go.Sort.putRow, Go.Sort.mapBlock, Go.Sort.ahead, Array.getElem?_modify, this]
theorem sortWorld_block {α : Type} [Inhabited α] {enc : α → Value} {w : World} {g m : Nat} {dk : Array α} {os : Array Obj} {cur : Array Value} {e : TypeId} {fr : Nat × Nat} (hb : w.heap[g]? = some (.cells cur e fr)) :
    (sortWorld enc w g 0 m dk os).heap[g]? = some (.cells (Go.Sort.putCells enc 0 dk cur) e fr) := by
  unfold sortWorld
  have hg : g < w.heap.size := (Array.getElem?_eq_some_iff.1 hb).1
  rw [Go.Sort.heap_grow_old _ _ (by simpa using hg)]
  simp [Go.Sort.putRow, Go.Sort.mapBlock, Go.Sort.ahead, Array.getElem?_modify, hb, Go.Sort.onCells]
theorem take_putE {α : Type} [Inhabited α] (enc : α → Value) (cur : Array Value) (dk : Array α) (h : dk.size ≤ cur.size) : (Go.Sort.putCells enc 0 dk cur).toList.take dk.size = dk.toList.map enc := by
  apply List.ext_getElem?
  intro j
  by_cases hj : j < dk.size
  · rw [List.getElem?_take_of_lt hj, Array.getElem?_toList]
    simp [Go.Sort.putCells, hj, show j < cur.size by omega]
  · rw [List.getElem?_take_eq_none (by omega), List.getElem?_eq_none (by simp; omega)]
theorem nodup_ofFnId (n : Nat) : (List.ofFn (n := n) id).Nodup := by
  refine List.pairwise_iff_getElem.2 fun i j hi hj hij e => ?_
  simp at e
  omega
set_option maxHeartbeats 1000000 in
/-- slices.SortFunc at an owned list of pairs, each pair once -/
theorem sortRowsX_c (list : List P22) (B : Nat) (X : Nat → Prop) (v : Value) (w : World) (hO : OwnIX w B X v (prows list)) (hnd : list.Nodup) (hl : list.length ≤ 1000000) (h0 : 0 < list.length) :
    Calls Try.prog 102 #[v, .func (.func 103) #[] #[]] w fun e w' =>
      e = .returned (.tuple #[]) ∧ (∃ list', list'.Perm list ∧ list'.Pairwise (fun x y => ltP y x = false) ∧ OwnIX w' B X v (prows list')) ∧ w.grownBy w' v.ownBlock := by
  have eg : ∀ args w, (callFunc 103 args).run Try.prog w = .ok (.enter 103 args) w := enters_of Try.func103 (by kernel_rfl) rfl
  obtain ⟨vs, h1, h2, h3, h4, h5, h6⟩ := hO
  rw [prows_length] at h1
  obtain ⟨hvl, ⟨_, h⟩ | ⟨g, cap, cur, rfl, hB, hb, k1, k2, k3, k4⟩⟩ := h1
  · omega
  rw [Nat.mul_one] at hvl k3 k4
  have hn : Nonempty (Fin list.length) := ⟨⟨0, h0⟩⟩
  letI : Inhabited (Fin list.length) := ⟨⟨0, h0⟩⟩
  have hpl := prows_length list
  have hrow : ∀ i : Fin list.length, OwnI w B (vs[i.1]'(by rw [hvl]; exact i.2)) (prow list[i.1]) := fun i => by
    have := h2 i.1 (by rw [hvl]; exact i.2) (by rw [hpl]; exact i.2)
    simpa [prows] using this
  let enc : Fin list.length → Value := fun i => vs[i.1]'(by rw [hvl]; exact i.2)
  have henc : ∀ i, OwnI w B (enc i) (prow list[i.1]) := hrow
  have h1c : OneCell enc := fun i => by
    obtain ⟨A, cx, e, _⟩ := (henc i).shape
    rw [e]; rfl
  let cf : Fin list.length → Fin list.length → Int := fun i j => cmpL (prow list[i.1]) (prow list[j.1])
  have hlt : ∀ i j, ltOf cf i j = ltP list[i.1] list[j.1] := fun i j => cmpL_row _ _
  have hSWO : Go.Sort.SWO (ltOf cf) := ⟨fun x => by rw [hlt]; exact ltP_swo.irrefl _, fun x y z a b => by rw [hlt] at *; exact ltP_swo.trans _ _ _ a b, fun x y z a b => by rw [hlt] at *; exact ltP_swo.ntrans _ _ _ a b⟩
  have hcmp : CmpLays1 Try.prog 103 #[] enc cf g 0 (Array.ofFn (n := list.length) id).size w := fun m os dk _ x y => by
    have hx := (henc x).grown (sortWorld_grownBy (enc := enc) (w := w) (g := g) (m := m) (dk := dk) (os := os)) (h4 x.1 (by rw [hvl]; exact x.2))
    have hy := (henc y).grown (sortWorld_grownBy (enc := enc) (w := w) (g := g) (m := m) (dk := dk) (os := os)) (h4 y.1 (by rw [hvl]; exact y.2))
    obtain ⟨A, cx, ex, hcx, _⟩ := hx.shape
    obtain ⟨A', cx', ey, hcy, _⟩ := hy.shape
    rw [ex, ey]
    refine (cmpRows_c _ _ A A' cx cx' _ hcx hcy (by simp [prow]) (by simp [prow])).mono ?_
    rintro e w' ⟨rfl, rfl⟩
    exact ⟨rfl, 0, #[], by rw [Go.Sort.grow_empty]; rfl⟩
  have hH : Go.Sort.Holds enc w g 0 (Array.ofFn (n := list.length) id) := fun j hj => by
    have hj' : j < list.length := by simpa using hj
    refine ⟨?_, by simp [World.frozen?, hb]⟩
    simp only [World.cell?, hb, Nat.zero_add]
    simp only [Option.isSome_none, Bool.false_eq_true, if_false]
    have e1 : (cur.toList.take list.length)[j]? = vs[j]? := by rw [k4]
    rw [List.getElem?_take_of_lt hj'] at e1
    rw [← Array.getElem?_toList, e1, List.getElem?_eq_getElem (by rw [hvl]; exact hj')]
    simp [hj', enc]
  have hcon := Any.slices_SortFunc sortRows enc h1c cf hSWO 103 #[] g 0 cap (Array.ofFn (n := list.length) id) w eg hcmp hH (Array.getElem?_eq_some_iff.1 hb).1 (by simp; omega)
  change Calls Try.prog 102 _ _ _ at hcon
  rw [Array.size_ofFn] at hcon
  refine hcon.mono ?_
  rintro e w' ⟨rfl, d', n, os, hp, hs, rfl⟩
  have hsz : d'.size = list.length := by have := hp.1; simpa using this
  have hperm : d'.toList.Perm (List.ofFn (n := list.length) id) := by
    have := hp.2.2
    rw [Array.extract_eq_self_of_le (by omega), Array.extract_eq_self_of_le (by simp)] at this
    simpa using this
  have hnd' : d'.toList.Nodup := hperm.nodup_iff.2 (nodup_ofFnId _)
  have hdl : d'.toList.length = list.length := by simpa using hsz
  have hget : ∀ i (hi : i < list.length), d'[i]! = d'.toList[i]'(by omega) := fun i hi => by
    have : i < d'.size := by omega
    simp [this]
  refine ⟨rfl, ⟨d'.toList.map fun i => list[i.1], ?_, ?_, ?_⟩, sortWorld_grownBy⟩
  · refine (hperm.map _).trans (.of_eq ?_)
    rw [List.map_ofFn]
    exact List.ofFn_getElem
  · rw [List.pairwise_iff_getElem]
    intro i j hi hj hij
    simp only [List.length_map] at hi hj
    have := hs i j (Nat.zero_le _) hij (by omega)
    rw [hlt, hget i (by omega), hget j (by omega)] at this
    simpa only [List.getElem_map] using this
  · have hpr : ∀ i (hi : i < d'.toList.length) (hi' : i < (prows (d'.toList.map fun i => list[i.1])).length), (prows (d'.toList.map fun i => list[i.1]))[i] = prow list[(d'.toList[i]).1] := fun i hi hi' => by simp [prows]
    have hdn : ∀ i j (hi : i < d'.toList.length) (hj : j < d'.toList.length), i ≠ j → (d'.toList[i]).1 ≠ (d'.toList[j]).1 := fun i j hi hj hij e => hij ((List.getElem_inj hnd').1 (Fin.ext e))
    have hl' : (prows (d'.toList.map fun i => list[i.1])).length = list.length := by rw [prows_length, List.length_map, hdl]
    refine ⟨d'.toList.map enc, ?_, fun i hi hi' => ?_, fun i j hi hj hij => ?_, fun i hi => ?_, h5, fun i hi k hk => ?_⟩
    · rw [hl']
      refine ⟨by simp [hsz], .inr ⟨g, cap, Go.Sort.putCells enc 0 d' cur, rfl, hB, sortWorld_block hb, by omega, k2, ?_, ?_⟩⟩
      · simp [Go.Sort.putCells, k3]
      · rw [Nat.mul_one]
        have := take_putE enc cur d' (by omega)
        rwa [hsz] at this
    · have hi2 : i < d'.toList.length := by simpa using hi
      rw [hpr i hi2 hi', List.getElem_map]
      exact (henc _).grown sortWorld_grownBy (h4 _ (by rw [hvl]; exact (d'.toList[i]).2))
    · have hi2 : i < d'.toList.length := by simpa using hi
      have hj2 : j < d'.toList.length := by simpa using hj
      rw [List.getElem_map, List.getElem_map]
      exact h3 _ _ (by rw [hvl]; exact (d'.toList[i]).2) (by rw [hvl]; exact (d'.toList[j]).2) (hdn i j hi2 hj2 hij)
    · have hi2 : i < d'.toList.length := by simpa using hi
      rw [List.getElem_map]
      exact h4 _ (by rw [hvl]; exact (d'.toList[i]).2)
    · have hi2 : i < d'.toList.length := by simpa using hi
      rw [List.getElem_map] at hk
      exact h6 _ (by rw [hvl]; exact (d'.toList[i]).2) k hk

end Go.Proofs.Ytfkmophmiiehlaa
