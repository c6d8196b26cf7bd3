/- Contracts and lemmas for the statements of this seat, written for this claim; each theorem states its own conditions. -/
import Derived.Laws.IdiomCopy
import Derived.Test.YtfkmophmiiehlaaKoI2
import Derived.Test.YtfkmophmiiehlaaKoL1
import Derived.Test.YtfkmophmiiehlaaKoSe
import Derived.Test.YtfkmophmiiehlaaKoLw
import Derived.Test.YtfkmophmiiehlaaKoOw
set_option linter.unusedVariables false
set_option linter.unusedSimpArgs false
namespace Go.Proofs.Ytfkmophmiiehlaa
open Go.RowKit
def idxT (p : T4 → Bool) (l : List T4) : Int := match l.findIdx? p with | some i => (i : Int) | none => -1
theorem idxT_none {p : T4 → Bool} {xs : List T4} (h : ∀ j (h : j < xs.length), p xs[j] = false) : idxT p xs = -1 := by
  have : xs.findIdx? p = none := by
    rw [List.findIdx?_eq_none_iff]
    intro x hx
    obtain ⟨j, hj, rfl⟩ := List.getElem_of_mem hx
    exact h j hj
  simp [idxT, this]
theorem idxT_some {p : T4 → Bool} {xs : List T4} {i : Nat} (hi : i < xs.length) (h : ∀ j (h : j < xs.length), j < i → p xs[j] = false) (hp : p xs[i] = true) : idxT p xs = i := by
  have : xs.findIdx? p = some i := by
    rw [List.findIdx?_eq_some_iff_getElem]
    exact ⟨hi, hp, fun j hj => by simp [h j (by omega) hj]⟩
  simp [idxT, this]
def PredT (w : World) (k : FuncId) (caps : Array Value) (p : T4 → Bool) (xs : List T4) : Prop :=
  ∀ x ∈ xs, ∀ w1, Below w.heap.size w w1 → Calls Try.prog k (#[.agg #[.int .i64 x.a, .int .i64 x.b, .int .i64 x.c, .int .i64 x.d]] ++ caps) w1 fun e w' => e = .returned (.bool (p x)) ∧ Below w1.heap.size w1 w'
end Go.Proofs.Ytfkmophmiiehlaa
namespace Go.Proofs.Ytfkmophmiiehlaa
open Go.RowKit
def turnT (t : T4) : T4 := ⟨t.d, t.a, t.b, t.c⟩
theorem wpl_app_tile {ops : Array Oper} {rest : List Oper} {o : Oper} {a : Act} {W : World} {Q : Exit → Act → World → Prop} (hgd : o.guard = none) (s x : Operand)
    (ho : o.op = .call { callee := .builtin .append, args := #[s, x], argTypes := #[29, 29] }) (B : Nat) (v : Value) (ts : List T4) (t : T4) (hs : a.eval s = v) (hown : OwnT W B v ts)
    (b : Nat) (hx : a.eval x = .slice (some ⟨b, 0, none⟩) 1 1) (hc : Blk W b [.int .i64 t.a, .int .i64 t.b, .int .i64 t.c, .int .i64 t.d] 57) (hl : ts.length ≤ 1000000000) (hB : B ≤ W.heap.size)
    (h : ∀ v' w', OwnT w' B v' (ts ++ [t]) → W.grownBy w' v.ownBlock → wpList Try.prog ops Q rest (a.put o.dst v') w') : wpList Try.prog ops Q (o :: rest) a W := by
  obtain ⟨i0, hi, hz0, hz1, hz2⟩ := info_parts infoTile2
  refine wpList_append_own W hgd s x 29 ho B 57 i0 (.agg #[.int .i64 0, .int .i64 0, .int .i64 0, .int .i64 0]) 4 32 Try.underlying29 hi hz0 hz1 hz2 rfl (by decide) v ts.length (tcells ts) hs hown ⟨b, 0, none⟩ 1 1 [.int .i64 t.a, .int .i64 t.b, .int .i64 t.c, .int .i64 t.d] hx rfl ?_ (by simp [Value.oneCell']) (by simp [maxLen]; omega) (by omega) hB ?_
  · intro j u hj
    have := hc.cell? j
    rw [hj] at this
    cases j with
    | zero => simpa [Addr.add] using this
    | succ j => simpa [Addr.add] using this
  · intro v' w' h1 h2 _
    refine h v' w' ?_ h2
    unfold OwnT
    rw [tcells_snoc, List.length_append]
    exact h1
def turnN (t : T4) : Nat → T4
  | 0 => t
  | n + 1 => turnT (turnN t n)
def turnsL (t : T4) (k : Nat) : List T4 := (List.range k).map (turnN t)
theorem turnsL_succ (t : T4) (k : Nat) : turnsL t (k + 1) = turnsL t k ++ [turnN t k] := by simp [turnsL, List.range_succ]
theorem turnsL_length (t : T4) (k : Nat) : (turnsL t k).length = k := by simp [turnsL]
theorem OwnT.empty (w : World) (B : Nat) (hB : B ≤ w.heap.size) : OwnT (w.alloc (.cells #[] 57)) B (.slice (some ⟨w.heap.size, 0, none⟩) 0 0) [] :=
  World.ownsRow_lit (base := B) (e := 57) (size := 4) w #[] 0 hB (by decide) rfl
theorem OwnT.alloc {w : World} {B : Nat} {v : Value} {ts : List T4} (h : OwnT w B v ts) (o : Obj) : OwnT (w.alloc o) B v ts := World.ownsRow.alloc h o
theorem OwnT.other {w : World} {B : Nat} {v : Value} {ts : List T4} (h : OwnT w B v ts) (b k : Nat) (hb : b < B) (u : Value) : OwnT (w.setCell ⟨b, k, none⟩ u) B v ts := by
  refine World.ownsRow.kept (row := some b) h ⟨rfl, rfl, rfl, (KeepsWalks.setCell w _ u).size, fun j _ hj => Below.heap_setCell _ _ _ j (fun e => hj (by rw [e]))⟩ ?_
  obtain ⟨h1, ⟨rfl, h2⟩ | ⟨g, cap, cur, rfl, e2, e3⟩⟩ := h
  · exact .inl rfl
  · refine .inr (fun e => ?_)
    have e' : g = b := Option.some.inj e
    omega
end Go.Proofs.Ytfkmophmiiehlaa
namespace Go.Proofs.Ytfkmophmiiehlaa
open Go.RowKit
theorem itAppendSeq_c (Bs cap : Nat) (A : Option Addr) (ts : List T4) (hl : ts.length ≤ 1000000000) (w : World) (hBs : Bs < w.heap.size)
    (hc : w.cell? ⟨Bs, 0, none⟩ = some (.slice A ts.length cap)) (hT : TileCells w A ts) :
    Calls Try.prog 151 #[.slice none 0 0, .func (.func 129) #[] #[.pointer (some ⟨Bs, 0, none⟩)]] w fun e W' => ∃ v, e = .returned v ∧ OwnT W' w.heap.size v ts ∧ Below w.heap.size w W' :=
  callsIn_wide.1 (itAppendSeq_in Fence.wide 3 trivial trivial rfl (by omega) Bs cap A ts hl w hBs hc hT)
theorem itValues_c (A : Option Addr) (len cap : Nat) (w : World) :
    Calls Try.prog 76 #[.slice A len cap] w fun e w' => e = .returned (.func (.func 129) #[] #[.pointer (some ⟨w.heap.size, 0, none⟩)]) ∧ w' = w.alloc (.cells #[.slice A len cap] 29) :=
  callsIn_wide.1 (itValues_in Fence.wide 3 trivial rfl A len cap w)
set_option maxRecDepth 100000 in
set_option maxHeartbeats 1000000 in
theorem itCollect_c (Bs cap : Nat) (A : Option Addr) (ts : List T4) (hl : ts.length ≤ 1000000000) (w : World) (hBs : Bs < w.heap.size)
    (hc : w.cell? ⟨Bs, 0, none⟩ = some (.slice A ts.length cap)) (hT : TileCells w A ts) :
    Calls Try.prog 127 #[.func (.func 129) #[] #[.pointer (some ⟨Bs, 0, none⟩)]] w fun e W' => ∃ v, e = .returned v ∧ OwnT W' w.heap.size v ts ∧ Below w.heap.size w W' := by
  have H := Lib.hid (itAppendSeq_c Bs cap A ts hl w hBs hc hT)
  clear hc hT hl
  go_enter Try.func127, Try.ntmps127
  go_wp2_with fail
  refine H.out.mono ?_
  rintro e w1 ⟨v, rfl, hO, hb⟩
  go_wp2
  go_ret
  exact ⟨v, rfl, hO, hb⟩
set_option maxRecDepth 100000 in
set_option maxHeartbeats 1000000 in
theorem sortedFunc_c (Bs cap : Nat) (A : Option Addr) (ts : List T4) (hl : ts.length ≤ 1000000000) (w : World) (hBs : Bs < w.heap.size)
    (hc : w.cell? ⟨Bs, 0, none⟩ = some (.slice A ts.length cap)) (hT : TileCells w A ts) :
    Calls Try.prog 75 #[.func (.func 129) #[] #[.pointer (some ⟨Bs, 0, none⟩)], .func (.func 78) #[] #[]] w fun e W' => ∃ v, e = .returned v ∧ OwnT W' w.heap.size v (sortT ts) ∧ Below w.heap.size w W' := by
  have H := Lib.hid (itCollect_c Bs cap A ts hl w hBs hc hT)
  clear hc hT
  have HL := Lib.hid hl
  clear hl
  go_enter Try.func75, Try.ntmps75
  go_wp2_with fail
  refine H.out.mono ?_
  rintro e w1 ⟨v, rfl, hO, hb⟩
  have HO := Lib.hid hO
  clear hO
  go_wp2_with fail
  refine (sortFuncO_c ts _ v _ HO.out HL.out).mono ?_
  rintro e w2 ⟨rfl, hO2, hg⟩
  go_wp2
  go_ret
  exact ⟨v, rfl, hO2, hb.grown hg hb.size (fun k hk => (World.ownsRow.lt HO.out k hk).1)⟩
theorem OwnT.weaken {w : World} {B B' : Nat} {v : Value} {ts : List T4} (h : OwnT w B v ts) (hB : B' ≤ B) : OwnT w B' v ts := by
  obtain ⟨h1, h2⟩ := h
  refine ⟨h1, ?_⟩
  rcases h2 with h2 | ⟨g, cap, cur, e1, e2, e3⟩
  · exact .inl h2
  · exact .inr ⟨g, cap, cur, e1, Nat.le_trans hB e2, e3⟩

end Go.Proofs.Ytfkmophmiiehlaa
