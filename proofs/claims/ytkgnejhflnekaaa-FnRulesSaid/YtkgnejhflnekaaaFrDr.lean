/- Contracts and lemmas for the statements of this seat, written for this claim; each theorem states its own conditions. -/
import Derived.BigQuiet
import Derived.Laws.EntriesVeiled
import Derived.Test.YtkgnejhflnekaaaFrRx
import Derived.Test.YtkgnejhflnekaaaFrL1
import Derived.Test.YtkgnejhflnekaaaFrB
import Derived.Test.YtkgnejhflnekaaaFrSe
import Derived.Test.YtkgnejhflnekaaaFrGt
import Derived.Test.YtkgnejhflnekaaaFrBy
import Derived.Test.YtkgnejhflnekaaaFrMk
set_option linter.unusedVariables false
set_option linter.unusedSimpArgs false
namespace Go.Proofs.Ytkgnejhflnekaaa
open Go.RowKit
attribute [local go_sem] addUpon_value addUpon_skip addUpon_enter
def eqL (xs ys : List Int) : Bool := decide (xs = ys)
set_option maxRecDepth 100000 in
set_option maxHeartbeats 1000000 in
theorem likeInts_c (xs ys : List Int) (A B : Option Addr) (cx cy : Nat) (w : World) (hx : Cells w A (ints xs)) (hy : Cells w B (ints ys)) (lx : xs.length ≤ 1000000000) (ly : ys.length ≤ 1000000000) :
    Calls Try.prog 23 #[.slice A xs.length cx, .slice B ys.length cy] w fun e w' => e = .returned (.bool (eqL xs ys)) ∧ Below w.heap.size w w' := by
  by_cases hl : xs.length = ys.length
  · have HL := Lib.hid hl
    have hl' : ((xs.length : Int) != (ys.length : Int)) = false := by simp; omega
    have hl2 : ys.length ≤ xs.length := by omega
    have hl3 : xs.length ≤ ys.length := by omega
    clear hl
    go_enter Try.func23, Try.ntmps23
    go_wp2
    go_loopw [5] (fun i wr => ∃ k : Nat, k ≤ xs.length ∧ i = .int .i64 k ∧ Hid (∀ j (h1 : j < xs.length) (h2 : j < ys.length), j < k → xs[j] = ys[j]) ∧ Below w.heap.size w wr) (fun i _ => xs.length - (intOf i).toNat)
    case atStart => exact ⟨0, by omega, rfl, fun j _ _ h => by omega, Below.refl _ _⟩
    case round =>
      obtain ⟨k, hk, rfl, Hn, hb⟩ := hrel
      have Hb := Lib.hid hb
      by_cases h1 : k < xs.length
      · have h2 : k < ys.length := by omega
        obtain ⟨b, off, rfl, hlt, c0⟩ := (hx.below hb).int k h1
        obtain ⟨b', off', rfl, hlt', d0⟩ := (hy.below hb).int k h2
        by_cases hE : xs[k] = ys[k]
        · have HE : Hid (∀ j (h1 : j < xs.length) (h2 : j < ys.length), j < k + 1 → xs[j] = ys[j]) := fun j h1 h2 hj => by
            by_cases e : j = k
            · subst e; exact hE
            · exact Hn.out j h1 h2 (by omega)
          have hE' : (xs[k] != ys[k]) = false := by simp [hE]
          have e0 := keepC c0
          have f0 := keepC d0
          clear hE hx hy hb c0 d0
          generalize xs[k] = s at *
          generalize ys[k] = t at *
          go_wp2_with fail
          refine wp_region_add (fun w' => Below (wr).heap.size (wr) w') (by kernel_rfl) (by kernel_rfl) ((Below.refl _ _).drew) ?_
          repeat (first
            | (refine add_skip rfl (fun K' hK' => ?_); go_simp; refine hK' _ ?_; clear hK' K')
            | (refine add_do (v := ?_) rfl (fun w1 hb => ?_) (fun K' hK' => ?_); rotate_left
               · go_simp
                 first
                 | (with_reducible exact rfl)
                 | (with_reducible exact ⟨rfl, hb⟩)
                 | exact rfl
                 | exact ⟨rfl, hb⟩
               go_simp; refine hK' _ ?_; clear hK' K'))
          refine add_nil ?_
          intro wa hba
          go_wp2
          go_roundw
          case rel => exact ⟨k + 1, by omega, by go_num, HE, by have h3 := Hb.out; (repeat (first | (with_reducible exact Below.refl _ _) | (with_reducible assumption) | (with_reducible refine below_al ?_) | (with_reducible refine below_dr ?_) | (with_reducible refine below_drN ?_) | (with_reducible refine below_set ?_ (by first | exact Nat.le_refl _ | (dsimp only; omega) | omega)) | (with_reducible refine below_tr (by with_reducible assumption) ?_)))⟩
          case measure => simp [intOf]; omega
        · have HE : Hid (eqL xs ys = false) := by
            show eqL xs ys = false
            simp only [eqL, decide_eq_false_iff_not]; intro e; exact hE (by simp [e])
          have hE' : (xs[k] != ys[k]) = true := by simp [hE]
          have e0 := keepC c0
          have f0 := keepC d0
          clear hE hx hy hb c0 d0
          generalize xs[k] = s at *
          generalize ys[k] = t at *
          go_wp2_with fail
          refine wp_region_add (fun w' => Below (wr).heap.size (wr) w') (by kernel_rfl) (by kernel_rfl) ((Below.refl _ _).drew) ?_
          repeat (first
            | (refine add_skip rfl (fun K' hK' => ?_); go_simp; refine hK' _ ?_; clear hK' K')
            | (refine add_do (v := ?_) rfl (fun w1 hb => ?_) (fun K' hK' => ?_); rotate_left
               · go_simp
                 first
                 | (with_reducible exact rfl)
                 | (with_reducible exact ⟨rfl, hb⟩)
                 | exact rfl
                 | exact ⟨rfl, hb⟩
               go_simp; refine hK' _ ?_; clear hK' K'))
          refine add_nil ?_
          intro wa hba
          go_wp2
          go_ret
          exact ⟨ret_bool HE.out.symm, by have h3 := Hb.out; (repeat (first | (with_reducible exact Below.refl _ _) | (with_reducible assumption) | (with_reducible refine below_al ?_) | (with_reducible refine below_dr ?_) | (with_reducible refine below_drN ?_) | (with_reducible refine below_set ?_ (by first | exact Nat.le_refl _ | (dsimp only; omega) | omega)) | (with_reducible refine below_tr (by with_reducible assumption) ?_)))⟩
      · have hE : Hid (eqL xs ys = true) := by
          show eqL xs ys = true
          simp only [eqL, decide_eq_true_eq]
          exact List.ext_getElem HL.out fun j h1 h2 => Hn.out j h1 h2 (by omega)
        clear hx hy
        go_wp2
        go_ret
        exact ⟨ret_bool hE.out.symm, hb⟩
  · have hR : Hid (eqL xs ys = false) := by
      show eqL xs ys = false
      simp only [eqL, decide_eq_false_iff_not]; intro e; exact hl (by rw [e])
    have hl' : ((xs.length : Int) != (ys.length : Int)) = true := by simp; omega
    clear hl
    go_enter Try.func23, Try.ntmps23
    go_wp2
    go_ret
    exact ⟨ret_bool hR.out.symm, Below.refl _ _⟩

end Go.Proofs.Ytkgnejhflnekaaa
namespace Go.Proofs.Ytkgnejhflnekaaa
open Go.RowKit
theorem eqL_refl (xs : List Int) : eqL xs xs = true := by simp [eqL]
theorem big_c (n cx : Nat) (A : Option Addr) (w : World) (hl : n ≤ 9223372036854775807) : Calls Try.prog 4 #[.slice A n cx] w fun e w' => e = .returned (.bool (decide ((n : Int) > 4096))) ∧ w = w' := by
  go_enter Try.func4, Try.ntmps4
  go_wp2
  go_ret
  exact ⟨rfl, rfl⟩
end Go.Proofs.Ytkgnejhflnekaaa
namespace Go.Proofs.Ytkgnejhflnekaaa
open Go.RowKit
theorem cellsU8 : Try.prog.cellsOf 5 = 1 := by kernel_rfl
theorem u8_wf {z : Int} (h : (Lit.int .u8 z).wf = true) : 0 ≤ z ∧ z < 256 := by
  simp [Lit.wf, IntKind.min, IntKind.max, IntKind.wrap, IntKind.bits, IntKind.signed] at h
  omega
section
variable {H : Type} {enc : TypeId × Value → H} {w : World} {spare : Nat → Bool} {held : Bool}
theorem trod_bytes {n : Nat} {cs : List Value} {x : DataW H × List MemPlace} (h : DataW.trod enc Try.prog w 0 spare held n 22 cs = some x) :
    ∃ A cap, ∃ xs : List Int, cs = [.slice A xs.length cap] ∧ xs.length ≤ 9223372036854775807 ∧ BytesC w A xs ∧ ∀ x ∈ xs, 0 ≤ x ∧ x < 256 := by
  rcases Go.Deep.open_slice1 Try.underlying22 cellsU8 h with ⟨rfl, _⟩ | ⟨a, len, cap, m, n, V, D, Pl, rfl, _, hl, hm, hmm, _, hi⟩
  · exact ⟨none, 0, [], rfl, by simp, fun k hk => by simp at hk, by simp⟩
  · have hlm : len ≤ m := by rw [hmm]; split <;> omega
    have hel : ∀ i, i < len → ∃ z : Int, w.cell? (a.add i) = some (.int .u8 z) ∧ 0 ≤ z ∧ z < 256 := fun i hil => by
      obtain ⟨hc, ht⟩ := hi i (by omega)
      obtain ⟨z, hz, _, hwf⟩ := DataW.trod_int Try.underlying5 ht
      simp at hz
      exact ⟨z, by rw [hc, hz], u8_wf hwf⟩
    obtain ⟨f, hf⟩ : ∃ f : Nat → Int, ∀ i, i < len → w.cell? (a.add i) = some (.int .u8 (f i)) ∧ 0 ≤ f i ∧ f i < 256 :=
      ⟨fun i => if h : i < len then (hel i h).choose else 0, fun i hil => by simp only [dif_pos hil]; exact (hel i hil).choose_spec⟩
    refine ⟨some a, cap, (List.range len).map f, by simp, by simp [maxLen] at hm; simp; omega, fun k hk => ?_, fun x hx => ?_⟩
    rotate_left
    · simp only [List.mem_map, List.mem_range] at hx
      obtain ⟨k, hk, rfl⟩ := hx
      exact (hf k hk).2
    have hk' : k < len := by simpa using hk
    have hspot : a.spot = none := by
      have h0 := (hf 0 (by omega)).1
      simp only [Addr.add, if_true] at h0
      cases hs : a.spot with
      | none => rfl
      | some s =>
        exfalso
        unfold World.cell? at h0
        split at h0
        · simp [hs] at h0
        · simp at h0
    obtain ⟨b, off, sp⟩ := a
    simp only at hspot
    subst hspot
    have hk2 := (hf k hk').1
    simp only [add_off] at hk2
    exact ⟨b, off, rfl, by rw [hk2]; simp⟩
end

end Go.Proofs.Ytkgnejhflnekaaa
namespace Go.Proofs.Ytkgnejhflnekaaa
open Go.RowKit
/-- a column: its north colour, the codes of its west and its east word, and its south colour -/
structure Col where
  n : Int
  w : Int
  e : Int
  s : Int
  deriving DecidableEq, Inhabited
def kid (c : Int) (first : Bool) (k : Col) (t : T4) : Col := ⟨if first = true then t.b else k.n, k.w * c + t.a, k.e * c + t.c, t.d⟩
def fits (first : Bool) (k : Col) (t : T4) : Bool := first || decide (t.b = k.s)
def kids (c : Int) (ts : List T4) (first : Bool) (k : Col) : List Col := (ts.filter (fits first k)).map (kid c first k)
/-- the columns that begin with k and go on over m tiles more, of h -/
def dfs (c : Int) (ts : List T4) (h : Nat) : Nat → Col → List Col
  | 0, k => [k]
  | m + 1, k => (kids c ts (decide (m + 1 = h)) k).flatMap (dfs c ts h m)
theorem kids_succ (c : Int) (ts : List T4) (first : Bool) (k : Col) (j : Nat) (hj : j < ts.length) :
    kids c (ts.take (j + 1)) first k = kids c (ts.take j) first k ++ if fits first k ts[j] = true then [kid c first k ts[j]] else [] := by
  unfold kids
  rw [List.take_succ_eq_append_getElem hj, List.filter_append, List.map_append]
  congr 1
  by_cases h : fits first k ts[j] = true <;> simp [h]
def dfsTo (c : Int) (ts : List T4) (h m : Nat) (k : Col) (j : Nat) : List Col := (kids c (ts.take j) (decide (m + 1 = h)) k).flatMap (dfs c ts h m)
theorem dfsTo_zero (c : Int) (ts : List T4) (h m : Nat) (k : Col) : dfsTo c ts h m k 0 = [] := by simp [dfsTo, kids]
theorem dfsTo_all (c : Int) (ts : List T4) (h m : Nat) (k : Col) : dfsTo c ts h m k ts.length = dfs c ts h (m + 1) k := by simp [dfsTo, dfs]
theorem dfsTo_succ (c : Int) (ts : List T4) (h m : Nat) (k : Col) (j : Nat) (hj : j < ts.length) :
    dfsTo c ts h m k (j + 1) = dfsTo c ts h m k j ++ if fits (decide (m + 1 = h)) k ts[j] = true then dfs c ts h m (kid c (decide (m + 1 = h)) k ts[j]) else [] := by
  unfold dfsTo
  rw [kids_succ _ _ _ _ _ hj, List.flatMap_append]
  congr 1
  by_cases h : fits (decide (m + 1 = h)) k ts[j] = true <;> simp [h]
theorem dfsTo_le (c : Int) (ts : List T4) (h m : Nat) (k : Col) : ∀ (j d : Nat), j + d = ts.length → (dfsTo c ts h m k j).length ≤ (dfs c ts h (m + 1) k).length
  | j, 0, hd => by rw [← dfsTo_all]; have : j = ts.length := by omega
                   subst this; exact Nat.le_refl _
  | j, d + 1, hd => by
    refine Nat.le_trans ?_ (dfsTo_le c ts h m k (j + 1) d (by omega))
    rw [dfsTo_succ _ _ _ _ _ _ (by omega), List.length_append]
    exact Nat.le_add_right _ _
theorem dfs_len (c : Int) (ts : List T4) (h : Nat) : ∀ (m : Nat) (k : Col), (dfs c ts h m k).length ≤ ts.length ^ m
  | 0, k => by simp [dfs]
  | m + 1, k => by
    have hk : (kids c ts (decide (m + 1 = h)) k).length ≤ ts.length := by
      unfold kids; rw [List.length_map]; exact List.length_filter_le ..
    have hf : ∀ l : List Col, (l.flatMap (dfs c ts h m)).length ≤ l.length * ts.length ^ m := by
      intro l
      induction l with
      | nil => simp
      | cons a l ih =>
        rw [List.flatMap_cons, List.length_append, List.length_cons, Nat.add_mul, Nat.one_mul]
        have := dfs_len c ts h m a
        omega
    show ((kids c ts (decide (m + 1 = h)) k).flatMap (dfs c ts h m)).length ≤ _
    refine Nat.le_trans (hf _) ?_
    rw [Nat.pow_succ, Nat.mul_comm (ts.length ^ m)]
    exact Nat.mul_le_mul_right _ hk
theorem grown_set0 (w : World) (g j : Nat) (v : Value) : w.grownBy (w.setCell ⟨g, j, none⟩ v) (some g) :=
  ⟨rfl, rfl, rfl, by simp [World.setCell], fun k _ hne => Below.heap_setCell w ⟨g, j, none⟩ v k (fun e => hne (by rw [e]))⟩
structure FrB (B g : Nat) (w w' : World) : Prop where
  os : w'.os = w.os
  tape : w'.tape = w.tape
  output : w'.output = w.output
  size : w.heap.size ≤ w'.heap.size
  block : ∀ k, k < B → k ≠ g → w'.heap[k]? = w.heap[k]?
theorem FrB.refl (B g : Nat) (w : World) : FrB B g w w := ⟨rfl, rfl, rfl, Nat.le_refl _, fun _ _ _ => rfl⟩
theorem FrB.trans {B g : Nat} {w w1 w2 : World} (h : FrB B g w w1) (k : FrB B g w1 w2) : FrB B g w w2 :=
  ⟨k.os.trans h.os, k.tape.trans h.tape, k.output.trans h.output, Nat.le_trans h.size k.size, fun j h1 h2 => (k.block j h1 h2).trans (h.block j h1 h2)⟩
theorem FrB.of_below {B g : Nat} {w w1 : World} (h : Below w.heap.size w w1) (hB : B ≤ w.heap.size) : FrB B g w w1 :=
  ⟨h.os, h.tape, h.output, h.size, fun k hk _ => h.block k (Nat.lt_of_lt_of_le hk hB)⟩
theorem FrB.alloc {B g : Nat} {w w1 : World} (h : FrB B g w w1) (hB : B ≤ w.heap.size) (o : Obj) : FrB B g w (w1.alloc o) :=
  h.trans (FrB.of_below (below_al (Below.refl _ _)) (Nat.le_trans hB h.size))
theorem FrB.drew {B g : Nat} {w w1 : World} (h : FrB B g w w1) : FrB B g w w1.drew := ⟨h.os, h.tape, h.output, h.size, h.block⟩
theorem FrB.drewN {B g : Nat} {w w1 : World} (h : FrB B g w w1) (n : Nat) : FrB B g w (w1.drewN n) := ⟨h.os, h.tape, h.output, h.size, h.block⟩
theorem FrB.set {B g : Nat} {w w1 : World} (h : FrB B g w w1) (j : Nat) (v : Value) : FrB B g w (w1.setCell ⟨g, j, none⟩ v) :=
  ⟨h.os, h.tape, h.output, by have := h.size; simp [World.setCell]; omega, fun k h1 h2 => (Below.heap_setCell w1 ⟨g, j, none⟩ v k h2).trans (h.block k h1 h2)⟩
theorem FrB.setFar {B g a : Nat} {w w1 : World} (h : FrB B g w w1) (ha : B ≤ a) (j : Nat) (v : Value) : FrB B g w (w1.setCell ⟨a, j, none⟩ v) :=
  ⟨h.os, h.tape, h.output, by have := h.size; simp [World.setCell]; omega, fun k h1 h2 => (Below.heap_setCell w1 ⟨a, j, none⟩ v k (by dsimp only; omega)).trans (h.block k h1 h2)⟩
theorem FrB.grown {B g : Nat} {w w1 w2 : World} {v : Value} (h : FrB B g w w1) (hB : B ≤ w.heap.size) (hg : w1.grownBy w2 v.ownBlock) (hv : ∀ k, v.ownBlock = some k → B ≤ k) : FrB B g w w2 :=
  ⟨hg.os.trans h.os, hg.tape.trans h.tape, hg.output.trans h.output, Nat.le_trans h.size hg.size, fun k h1 h2 => (hg.block k (Nat.lt_of_lt_of_le (Nat.lt_of_lt_of_le h1 hB) h.size) (fun e => by have := hv k e.symm; omega)).trans (h.block k h1 h2)⟩
theorem FrB.cell {B g b j : Nat} {w w' : World} {v : Value} (h : FrB B g w w') (hb : b < B) (hn : b ≠ g) (hc : w.cell? ⟨b, j, none⟩ = some v) : w'.cell? ⟨b, j, none⟩ = some v :=
  (World.cell?_of_block (a := ⟨b, j, none⟩) (h.block b hb hn)).trans hc
theorem FrB.tiles {B g : Nat} {w w' : World} {A : Option Addr} {ts : List T4} (h : FrB B g w w') (hT : TileCells w A ts) (hA : 0 < ts.length → ∀ b off, A = some ⟨b, off, none⟩ → b < B ∧ b ≠ g) : TileCells w' A ts := by
  intro k hk
  obtain ⟨b, off, e, hlt, h0, h1, h2, h3⟩ := hT k hk
  obtain ⟨i1, i2⟩ := hA (by omega) b off e
  exact ⟨b, off, e, Nat.lt_of_lt_of_le hlt h.size, h.cell i1 i2 h0, h.cell i1 i2 h1, h.cell i1 i2 h2, h.cell i1 i2 h3⟩
end Go.Proofs.Ytkgnejhflnekaaa
namespace Go.Proofs.Ytkgnejhflnekaaa
open Go.RowKit
def col0 : Col := ⟨0, 0, 0, 0⟩
def lev (c : Int) (ts : List T4) : Nat → List Col
  | 0 => [⟨-1, 0, 0, -1⟩]
  | i + 1 => (lev c ts i).flatMap (kids c ts (decide (i = 0)))
def upc (c : Int) (ts : List T4) (h : Nat) : Nat → List Col → List Col
  | 0, l => l
  | m + 1, l => upc c ts h m (l.flatMap (kids c ts (decide (m + 1 = h))))
theorem upc_dfs (c : Int) (ts : List T4) (h : Nat) : ∀ (m : Nat) (l : List Col), l.flatMap (dfs c ts h m) = upc c ts h m l
  | 0, l => by
    show l.flatMap (fun k => [k]) = l
    induction l with
    | nil => rfl
    | cons a l ih => simp
  | m + 1, l => by
    show l.flatMap (fun k => (kids c ts (decide (m + 1 = h)) k).flatMap (dfs c ts h m)) = upc c ts h m (l.flatMap (kids c ts (decide (m + 1 = h))))
    rw [← upc_dfs c ts h m, List.flatMap_assoc]
theorem upc_lev (c : Int) (ts : List T4) (h : Nat) : ∀ m, m < h → upc c ts h m (lev c ts (h - m)) = lev c ts h
  | 0, _ => rfl
  | m + 1, hm => by
    show upc c ts h m ((lev c ts (h - (m + 1))).flatMap (kids c ts (decide (m + 1 = h)))) = lev c ts h
    rw [← upc_lev c ts h m (by omega)]
    have e : h - m = (h - (m + 1)) + 1 := by omega
    rw [e]
    show _ = upc c ts h m ((lev c ts (h - (m + 1))).flatMap (kids c ts (decide (h - (m + 1) = 0))))
    rw [show decide (m + 1 = h) = decide (h - (m + 1) = 0) by congr 1; apply propext; constructor <;> intro _ <;> omega]
theorem dfs_lev (c : Int) (ts : List T4) (h : Nat) (hh : 1 ≤ h) : dfs c ts h h col0 = lev c ts h := by
  obtain ⟨m, rfl⟩ : ∃ m, h = m + 1 := ⟨h - 1, by omega⟩
  have e := upc_lev c ts (m + 1) m (by omega)
  rw [← e, show m + 1 - m = 1 by omega]
  show (kids c ts (decide (m + 1 = m + 1)) col0).flatMap (dfs c ts (m + 1) m) = upc c ts (m + 1) m (lev c ts 1)
  rw [← upc_dfs]
  congr 1
  show kids c ts (decide (m + 1 = m + 1)) col0 = [(⟨-1, 0, 0, -1⟩ : Col)].flatMap (kids c ts (decide (0 = 0)))
  have h1 : kid c true col0 = kid c true ⟨-1, 0, 0, -1⟩ := by funext t; simp [kid, col0]
  have h2 : fits true col0 = fits true ⟨-1, 0, 0, -1⟩ := by funext t; simp [fits]
  simp only [decide_true, List.flatMap_cons, List.flatMap_nil, List.append_nil, kids, h1, h2]
/-- the colours of all tiles are less than c -/
def InC (c : Int) (ts : List T4) : Prop := ∀ t ∈ ts, (0 ≤ t.a ∧ t.a < c) ∧ (0 ≤ t.b ∧ t.b < c) ∧ (0 ≤ t.c ∧ t.c < c) ∧ (0 ≤ t.d ∧ t.d < c)
theorem isSetB_inC {c : Int} {ts : List T4} (h : isSetB c ts = true) : InC c ts := by
  obtain ⟨h1, h2, h3⟩ := isSetB_parts h
  intro t ht
  obtain ⟨k, hk, rfl⟩ := List.getElem_of_mem ht
  have h4 := h1 k hk
  unfold okAt at h4
  simp only [Bool.and_eq_true] at h4
  have h5 := h4.1
  rw [getD_at hk] at h5
  have hw : wrap64 (c - 1) = c - 1 := by unfold wrap64; omega
  simp only [isTileB, T4.l, List.all_cons, List.all_nil, Bool.and_eq_true, inR_iff, hw] at h5
  omega
theorem mem_kids {c : Int} {ts : List T4} {f : Bool} {k x : Col} (h : x ∈ kids c ts f k) : ∃ t ∈ ts, fits f k t = true ∧ x = kid c f k t := by
  unfold kids at h
  rw [List.mem_map] at h
  obtain ⟨t, ht, rfl⟩ := h
  rw [List.mem_filter] at ht
  exact ⟨t, ht.1, ht.2, rfl⟩
theorem lev_codes {c : Int} {ts : List T4} (hc : 1 ≤ c) (hI : InC c ts) : ∀ i, ∀ x ∈ lev c ts i, (0 ≤ x.w ∧ x.w < c ^ i) ∧ (0 ≤ x.e ∧ x.e < c ^ i) ∧ (1 ≤ i → 0 ≤ x.n ∧ x.n < c)
  | 0, x, hx => by simp only [lev, List.mem_singleton] at hx; subst hx; simp
  | i + 1, x, hx => by
    have ih := lev_codes hc hI i
    simp only [lev, List.mem_flatMap] at hx
    obtain ⟨k, hk, hx⟩ := hx
    obtain ⟨t, ht, hf, rfl⟩ := mem_kids hx
    obtain ⟨⟨a1, a2⟩, ⟨b1, b2⟩, ⟨c1, c2⟩, _⟩ := hI t ht
    obtain ⟨⟨w1, w2⟩, ⟨e1, e2⟩, n1⟩ := ih k hk
    have p : c ^ (i + 1) = c ^ i * c := Int.pow_succ c i
    have q1 : (k.w + 1) * c ≤ c ^ i * c := Int.mul_le_mul_of_nonneg_right (by omega) (by omega)
    have q2 : (k.e + 1) * c ≤ c ^ i * c := Int.mul_le_mul_of_nonneg_right (by omega) (by omega)
    rw [Int.add_mul, Int.one_mul] at q1 q2
    have r1 : 0 ≤ k.w * c := Int.mul_nonneg w1 (by omega)
    have r2 : 0 ≤ k.e * c := Int.mul_nonneg e1 (by omega)
    simp only [kid]
    refine ⟨⟨by omega, by omega⟩, ⟨by omega, by omega⟩, fun _ => ?_⟩
    by_cases hi : i = 0
    · subst hi; simp; omega
    · simp only [hi, decide_false, Bool.false_eq_true, if_false]; exact n1 (by omega)
theorem lev_len (c : Int) (ts : List T4) : ∀ i, (lev c ts i).length ≤ ts.length ^ i
  | 0 => by simp [lev]
  | i + 1 => by
    have ih := lev_len c ts i
    have hf : ∀ l : List Col, (l.flatMap (kids c ts (decide (i = 0)))).length ≤ l.length * ts.length := by
      intro l
      induction l with
      | nil => simp
      | cons a l ih2 =>
        rw [List.flatMap_cons, List.length_append, List.length_cons, Nat.add_mul, Nat.one_mul]
        have : (kids c ts (decide (i = 0)) a).length ≤ ts.length := by unfold kids; rw [List.length_map]; exact List.length_filter_le ..
        omega
    refine Nat.le_trans (hf _) ?_
    rw [Nat.pow_succ]
    exact Nat.mul_le_mul_right _ ih
theorem pow16 {n h : Nat} (hn : n ≤ 16) (hh : h ≤ 3) : n ^ h ≤ 4096 :=
  Nat.le_trans (Nat.pow_le_pow_left hn h) (Nat.le_trans (Nat.pow_le_pow_right (by decide) hh) (by decide))
end Go.Proofs.Ytkgnejhflnekaaa
namespace Go.Proofs.Ytkgnejhflnekaaa
open Go.RowKit
def crow (k : Col) : List Int := [k.n, k.w, k.e, k.s]
def crows (l : List Col) : List (List Int) := l.map crow
theorem crows_len (l : List Col) : (crows l).length = l.length := by simp [crows]
theorem crows_append (l m : List Col) : crows (l ++ m) = crows l ++ crows m := by simp [crows]
theorem grown_dr {w W : World} {r : Option Nat} (h : w.grownBy W r) : w.grownBy W.drew r := ⟨h.os, h.tape, h.output, h.size, h.block⟩
theorem OwnII.lt {w : World} {B : Nat} {v : Value} {L : List (List Int)} (h : OwnII w B v L) : ∀ k, v.ownBlock = some k → B ≤ k ∧ k < w.heap.size := by
  obtain ⟨vs, h1, _⟩ := h
  exact fun k hk => World.ownsRow.lt h1 k hk
theorem OwnII.lit {w : World} {B g n : Nat} {cs : Array Value} {xs : List Int} (hg : w.heap.size = g) (hn : n = xs.length) (hc : cs.toList = ints xs) (hl : xs.length ≤ 1000000) (hB : B ≤ w.heap.size) :
    OwnII ((w.alloc (.cells cs 2)).alloc (.cells #[.slice (some ⟨g, 0, none⟩) n n] 40)) B (.slice (some ⟨g + 1, 0, none⟩) 1 1) [xs] := by
  subst hg hn
  refine ⟨[.slice (some ⟨w.heap.size, 0, none⟩) xs.length xs.length], ?_, fun i h h' => ?_, fun i j h h' hij => ?_, fun i h => ?_⟩
  · have := World.ownsRow_lit (base := B) (e := 40) (size := 1) (w.alloc (.cells cs 2)) #[.slice (some ⟨w.heap.size, 0, none⟩) xs.length xs.length] 1 (by simp; omega) (by simp [maxLen]) (by simp)
    simpa using this
  · have hi : i = 0 := by simp at h; omega
    subst hi
    exact (OwnI.made w B cs xs hc hB (by omega)).alloc _
  · simp at h h'; omega
  · have hi : i = 0 := by simp at h; omega
    subst hi
    exact Apart.blk (by omega)
end Go.Proofs.Ytkgnejhflnekaaa
