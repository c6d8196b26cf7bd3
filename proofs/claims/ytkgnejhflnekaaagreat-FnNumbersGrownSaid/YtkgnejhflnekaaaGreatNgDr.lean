/- Contracts and lemmas for the statements of this seat, written for this claim; each theorem states its own conditions. -/
import Derived.BigQuiet
import Derived.Test.YtkgnejhflnekaaaGreatNgOp
import Derived.Test.YtkgnejhflnekaaaGreatNgL1
import Derived.Test.YtkgnejhflnekaaaGreatNgB
import Derived.Test.YtkgnejhflnekaaaGreatNgAp
import Derived.Test.YtkgnejhflnekaaaGreatNgSe
import Derived.Test.YtkgnejhflnekaaaGreatNgBy
set_option linter.unusedVariables false
set_option linter.unusedSimpArgs false
namespace Go.Proofs.YtkgnejhflnekaaaGreat
open Go.RowKit
attribute [local go_sem] addUpon_value addUpon_skip addUpon_enter
def eqL (xs ys : List Int) : Bool := decide (xs = ys)
set_option maxRecDepth 100000 in
set_option maxHeartbeats 1000000 in
theorem likeInts_c (xs ys : List Int) (A B : Option Addr) (cx cy : Nat) (w : World) (hx : Cells w A (ints xs)) (hy : Cells w B (ints ys)) (lx : xs.length ≤ 1000000000) (ly : ys.length ≤ 1000000000) :
    Calls Tryz.prog 23 #[.slice A xs.length cx, .slice B ys.length cy] w fun e w' => e = .returned (.bool (eqL xs ys)) ∧ Below w.heap.size w w' := by
  by_cases hl : xs.length = ys.length
  · have HL := Lib.hid hl
    have hl' : ((xs.length : Int) != (ys.length : Int)) = false := by simp; omega
    have hl2 : ys.length ≤ xs.length := by omega
    have hl3 : xs.length ≤ ys.length := by omega
    clear hl
    go_enter Tryz.func23, Tryz.ntmps23
    go_wp2
    go_loopw [5] (fun i wr => ∃ k : Nat, k ≤ xs.length ∧ i = .int .i64 k ∧ Hid (∀ j (h1 : j < xs.length) (h2 : j < ys.length), j < k → xs[j] = ys[j]) ∧ Below w.heap.size w wr) (fun i _ => xs.length - (intOf i).toNat)
    case atStart => exact ⟨0, by omega, rfl, fun j _ _ h => by omega, Below.refl _ _⟩
    case round =>
      obtain ⟨k, hk, rfl, Hn, hb⟩ := hrel
      have Hb := Lib.hid hb
      by_cases h1 : k < xs.length
      · have h2 : k < ys.length := by omega
        obtain ⟨b, off, rfl, hlt, c0⟩ := (hx.below hb).int k h1
        obtain ⟨b', off', rfl, hlt', d0⟩ := (hy.below hb).int k h2
        by_cases hE : xs[k] = ys[k]
        · have HE : Hid (∀ j (h1 : j < xs.length) (h2 : j < ys.length), j < k + 1 → xs[j] = ys[j]) := fun j h1 h2 hj => by
            by_cases e : j = k
            · subst e; exact hE
            · exact Hn.out j h1 h2 (by omega)
          have hE' : (xs[k] != ys[k]) = false := by simp [hE]
          have e0 := keepC c0
          have f0 := keepC d0
          clear hE hx hy hb c0 d0
          generalize xs[k] = s at *
          generalize ys[k] = t at *
          go_wp2_with fail
          refine wp_region_add (fun w' => Below (wr).heap.size (wr) w') (by kernel_rfl) (by kernel_rfl) ((Below.refl _ _).drew) ?_
          repeat (first
            | (refine add_skip rfl (fun K' hK' => ?_); go_simp; refine hK' _ ?_; clear hK' K')
            | (refine add_do (v := ?_) rfl (fun w1 hb => ?_) (fun K' hK' => ?_); rotate_left
               · go_simp
                 first
                 | (with_reducible exact rfl)
                 | (with_reducible exact ⟨rfl, hb⟩)
                 | exact rfl
                 | exact ⟨rfl, hb⟩
               go_simp; refine hK' _ ?_; clear hK' K'))
          refine add_nil ?_
          intro wa hba
          go_wp2
          go_roundw
          case rel => exact ⟨k + 1, by omega, by go_num, HE, by have h3 := Hb.out; (repeat (first | (with_reducible exact Below.refl _ _) | (with_reducible assumption) | (with_reducible refine below_al ?_) | (with_reducible refine below_dr ?_) | (with_reducible refine below_drN ?_) | (with_reducible refine below_set ?_ (by first | exact Nat.le_refl _ | (dsimp only; omega) | omega)) | (with_reducible refine below_tr (by with_reducible assumption) ?_)))⟩
          case measure => simp [intOf]; omega
        · have HE : Hid (eqL xs ys = false) := by
            show eqL xs ys = false
            simp only [eqL, decide_eq_false_iff_not]; intro e; exact hE (by simp [e])
          have hE' : (xs[k] != ys[k]) = true := by simp [hE]
          have e0 := keepC c0
          have f0 := keepC d0
          clear hE hx hy hb c0 d0
          generalize xs[k] = s at *
          generalize ys[k] = t at *
          go_wp2_with fail
          refine wp_region_add (fun w' => Below (wr).heap.size (wr) w') (by kernel_rfl) (by kernel_rfl) ((Below.refl _ _).drew) ?_
          repeat (first
            | (refine add_skip rfl (fun K' hK' => ?_); go_simp; refine hK' _ ?_; clear hK' K')
            | (refine add_do (v := ?_) rfl (fun w1 hb => ?_) (fun K' hK' => ?_); rotate_left
               · go_simp
                 first
                 | (with_reducible exact rfl)
                 | (with_reducible exact ⟨rfl, hb⟩)
                 | exact rfl
                 | exact ⟨rfl, hb⟩
               go_simp; refine hK' _ ?_; clear hK' K'))
          refine add_nil ?_
          intro wa hba
          go_wp2
          go_ret
          exact ⟨ret_bool HE.out.symm, by have h3 := Hb.out; (repeat (first | (with_reducible exact Below.refl _ _) | (with_reducible assumption) | (with_reducible refine below_al ?_) | (with_reducible refine below_dr ?_) | (with_reducible refine below_drN ?_) | (with_reducible refine below_set ?_ (by first | exact Nat.le_refl _ | (dsimp only; omega) | omega)) | (with_reducible refine below_tr (by with_reducible assumption) ?_)))⟩
      · have hE : Hid (eqL xs ys = true) := by
          show eqL xs ys = true
          simp only [eqL, decide_eq_true_eq]
          exact List.ext_getElem HL.out fun j h1 h2 => Hn.out j h1 h2 (by omega)
        clear hx hy
        go_wp2
        go_ret
        exact ⟨ret_bool hE.out.symm, hb⟩
  · have hR : Hid (eqL xs ys = false) := by
      show eqL xs ys = false
      simp only [eqL, decide_eq_false_iff_not]; intro e; exact hl (by rw [e])
    have hl' : ((xs.length : Int) != (ys.length : Int)) = true := by simp; omega
    clear hl
    go_enter Tryz.func23, Tryz.ntmps23
    go_wp2
    go_ret
    exact ⟨ret_bool hR.out.symm, Below.refl _ _⟩

end Go.Proofs.YtkgnejhflnekaaaGreat
namespace Go.Proofs.YtkgnejhflnekaaaGreat
open Go.RowKit
theorem eqL_refl (xs : List Int) : eqL xs xs = true := by simp [eqL]
theorem big_c (n cx : Nat) (A : Option Addr) (w : World) (hl : n ≤ 9223372036854775807) : Calls Tryz.prog 6 #[.slice A n cx] w fun e w' => e = .returned (.bool (decide ((n : Int) > 4096))) ∧ w = w' := by
  go_enter Tryz.func6, Tryz.ntmps6
  go_wp2
  go_ret
  exact ⟨rfl, rfl⟩
end Go.Proofs.YtkgnejhflnekaaaGreat
namespace Go.Proofs.YtkgnejhflnekaaaGreat
open Go.RowKit
theorem cellsU8 : Tryz.prog.cellsOf 5 = 1 := by kernel_rfl
theorem u8_wf {z : Int} (h : (Lit.int .u8 z).wf = true) : 0 ≤ z ∧ z < 256 := by
  simp [Lit.wf, IntKind.min, IntKind.max, IntKind.wrap, IntKind.bits, IntKind.signed] at h
  omega
section
variable {H : Type} {enc : TypeId × Value → H} {w : World} {spare : Nat → Bool} {held : Bool}
theorem trod_bytes {n : Nat} {cs : List Value} {x : DataW H × List MemPlace} (h : DataW.trod enc Tryz.prog w 0 spare held n 22 cs = some x) :
    ∃ A cap, ∃ xs : List Int, cs = [.slice A xs.length cap] ∧ xs.length ≤ 9223372036854775807 ∧ BytesC w A xs ∧ ∀ x ∈ xs, 0 ≤ x ∧ x < 256 := by
  rcases Go.Deep.open_slice1 Tryz.underlying22 cellsU8 h with ⟨rfl, _⟩ | ⟨a, len, cap, m, n, V, D, Pl, rfl, _, hl, hm, hmm, _, hi⟩
  · exact ⟨none, 0, [], rfl, by simp, fun k hk => by simp at hk, by simp⟩
  · have hlm : len ≤ m := by rw [hmm]; split <;> omega
    have hel : ∀ i, i < len → ∃ z : Int, w.cell? (a.add i) = some (.int .u8 z) ∧ 0 ≤ z ∧ z < 256 := fun i hil => by
      obtain ⟨hc, ht⟩ := hi i (by omega)
      obtain ⟨z, hz, _, hwf⟩ := DataW.trod_int Tryz.underlying5 ht
      simp at hz
      exact ⟨z, by rw [hc, hz], u8_wf hwf⟩
    obtain ⟨f, hf⟩ : ∃ f : Nat → Int, ∀ i, i < len → w.cell? (a.add i) = some (.int .u8 (f i)) ∧ 0 ≤ f i ∧ f i < 256 :=
      ⟨fun i => if h : i < len then (hel i h).choose else 0, fun i hil => by simp only [dif_pos hil]; exact (hel i hil).choose_spec⟩
    refine ⟨some a, cap, (List.range len).map f, by simp, by simp [maxLen] at hm; simp; omega, fun k hk => ?_, fun x hx => ?_⟩
    rotate_left
    · simp only [List.mem_map, List.mem_range] at hx
      obtain ⟨k, hk, rfl⟩ := hx
      exact (hf k hk).2
    have hk' : k < len := by simpa using hk
    have hspot : a.spot = none := by
      have h0 := (hf 0 (by omega)).1
      simp only [Addr.add, if_true] at h0
      cases hs : a.spot with
      | none => rfl
      | some s =>
        exfalso
        unfold World.cell? at h0
        split at h0
        · simp [hs] at h0
        · simp at h0
    obtain ⟨b, off, sp⟩ := a
    simp only at hspot
    subst hspot
    have hk2 := (hf k hk').1
    simp only [add_off] at hk2
    exact ⟨b, off, rfl, by rw [hk2]; simp⟩
end

end Go.Proofs.YtkgnejhflnekaaaGreat
namespace Go.Proofs.YtkgnejhflnekaaaGreat
open Go.RowKit
/-- a column: its north colour, the codes of its west and its east word, and its south colour -/
structure Col where
  n : Int
  w : Int
  e : Int
  s : Int
  deriving DecidableEq, Inhabited
def kid (c : Int) (first : Bool) (k : Col) (t : T4) : Col := ⟨if first = true then t.b else k.n, k.w * c + t.a, k.e * c + t.c, t.d⟩
def fits (first : Bool) (k : Col) (t : T4) : Bool := first || decide (t.b = k.s)
def kids (c : Int) (ts : List T4) (first : Bool) (k : Col) : List Col := (ts.filter (fits first k)).map (kid c first k)
/-- the columns that begin with k and go on over m tiles more, of h -/
def dfs (c : Int) (ts : List T4) (h : Nat) : Nat → Col → List Col
  | 0, k => [k]
  | m + 1, k => (kids c ts (decide (m + 1 = h)) k).flatMap (dfs c ts h m)
theorem kids_succ (c : Int) (ts : List T4) (first : Bool) (k : Col) (j : Nat) (hj : j < ts.length) :
    kids c (ts.take (j + 1)) first k = kids c (ts.take j) first k ++ if fits first k ts[j] = true then [kid c first k ts[j]] else [] := by
  unfold kids
  rw [List.take_succ_eq_append_getElem hj, List.filter_append, List.map_append]
  congr 1
  by_cases h : fits first k ts[j] = true <;> simp [h]
def dfsTo (c : Int) (ts : List T4) (h m : Nat) (k : Col) (j : Nat) : List Col := (kids c (ts.take j) (decide (m + 1 = h)) k).flatMap (dfs c ts h m)
theorem dfsTo_zero (c : Int) (ts : List T4) (h m : Nat) (k : Col) : dfsTo c ts h m k 0 = [] := by simp [dfsTo, kids]
theorem dfsTo_all (c : Int) (ts : List T4) (h m : Nat) (k : Col) : dfsTo c ts h m k ts.length = dfs c ts h (m + 1) k := by simp [dfsTo, dfs]
theorem dfsTo_succ (c : Int) (ts : List T4) (h m : Nat) (k : Col) (j : Nat) (hj : j < ts.length) :
    dfsTo c ts h m k (j + 1) = dfsTo c ts h m k j ++ if fits (decide (m + 1 = h)) k ts[j] = true then dfs c ts h m (kid c (decide (m + 1 = h)) k ts[j]) else [] := by
  unfold dfsTo
  rw [kids_succ _ _ _ _ _ hj, List.flatMap_append]
  congr 1
  by_cases h : fits (decide (m + 1 = h)) k ts[j] = true <;> simp [h]
theorem dfsTo_le (c : Int) (ts : List T4) (h m : Nat) (k : Col) : ∀ (j d : Nat), j + d = ts.length → (dfsTo c ts h m k j).length ≤ (dfs c ts h (m + 1) k).length
  | j, 0, hd => by rw [← dfsTo_all]; have : j = ts.length := by omega
                   subst this; exact Nat.le_refl _
  | j, d + 1, hd => by
    refine Nat.le_trans ?_ (dfsTo_le c ts h m k (j + 1) d (by omega))
    rw [dfsTo_succ _ _ _ _ _ _ (by omega), List.length_append]
    exact Nat.le_add_right _ _
theorem dfs_len (c : Int) (ts : List T4) (h : Nat) : ∀ (m : Nat) (k : Col), (dfs c ts h m k).length ≤ ts.length ^ m
  | 0, k => by simp [dfs]
  | m + 1, k => by
    have hk : (kids c ts (decide (m + 1 = h)) k).length ≤ ts.length := by
      unfold kids; rw [List.length_map]; exact List.length_filter_le ..
    have hf : ∀ l : List Col, (l.flatMap (dfs c ts h m)).length ≤ l.length * ts.length ^ m := by
      intro l
      induction l with
      | nil => simp
      | cons a l ih =>
        rw [List.flatMap_cons, List.length_append, List.length_cons, Nat.add_mul, Nat.one_mul]
        have := dfs_len c ts h m a
        omega
    show ((kids c ts (decide (m + 1 = h)) k).flatMap (dfs c ts h m)).length ≤ _
    refine Nat.le_trans (hf _) ?_
    rw [Nat.pow_succ, Nat.mul_comm (ts.length ^ m)]
    exact Nat.mul_le_mul_right _ hk
/-- how the program keeps a column: west word, east word, north colour -/
def ccells (xs : List Col) : List Value := xs.flatMap fun k => [.int .i64 k.w, .int .i64 k.e, .int .i64 k.n]
theorem ccells_append (xs ys : List Col) : ccells (xs ++ ys) = ccells xs ++ ccells ys := by simp [ccells]
theorem ccells_length (xs : List Col) : (ccells xs).length = xs.length * 3 := by
  induction xs with
  | nil => rfl
  | cons a l ih => simp only [ccells, List.flatMap_cons, List.length_append, List.length_cons, List.length_nil]; unfold ccells at ih; omega
theorem ccells_get (xs : List Col) (k j : Nat) (hk : k < xs.length) (hj : j < 3) : (ccells xs)[k * 3 + j]? = [Value.int .i64 xs[k].w, .int .i64 xs[k].e, .int .i64 xs[k].n][j]? := by
  induction xs generalizing k with
  | nil => simp at hk
  | cons t ts ih =>
    have e : ccells (t :: ts) = [.int .i64 t.w, .int .i64 t.e, .int .i64 t.n] ++ ccells ts := rfl
    rw [e]
    cases k with
    | zero => rw [List.getElem?_append_left (by simp; omega)]; simp
    | succ k =>
      rw [List.getElem?_append_right (by simp; omega)]
      have := ih k (by simpa using hk)
      rw [show (k + 1) * 3 + j - [Value.int .i64 t.w, .int .i64 t.e, .int .i64 t.n].length = k * 3 + j by simp; omega]
      simpa using this
theorem infoArr3 : (Tryz.prog.info? 156).map (fun i => (i.zero, i.size, i.bytes)) = some (some (.agg #[.int .i64 0, .int .i64 0, .int .i64 0]), 3, 24) := by kernel_rfl
/-- columns that the call made and owns -/
def OwnC (w : World) (B : Nat) (v : Value) (xs : List Col) : Prop := w.ownsRow B 156 3 v xs.length (ccells xs)
theorem OwnC.nil (w : World) (B : Nat) : OwnC w B (.slice none 0 0) [] := World.ownsRow_nil _ _ _ _
theorem app_col {o : Oper} {a : Act} {W : World} {K : Act → World → Prop} {Q : Exit → Act → World → Prop} (s x : Operand)
    (ho : o.op = .call { callee := .builtin .append, args := #[s, x], argTypes := #[153, 153] }) (B : Nat) (v : Value) (xs : List Col) (y : Col) (hs : a.eval s = v) (hown : OwnC W B v xs)
    (b : Nat) (hx : a.eval x = .slice (some ⟨b, 0, none⟩) 1 1) (hc : ∀ j u, [Value.int .i64 y.w, .int .i64 y.e, .int .i64 y.n][j]? = some u → W.cell? ⟨b, j, none⟩ = some u) (hl : xs.length ≤ 1000000000) (hB : B ≤ W.heap.size)
    (h : ∀ v' w', OwnC w' B v' (xs ++ [y]) → W.grownBy w' v.ownBlock → K (a.put o.dst v') w') : o.wp Tryz.prog a W K Q := by
  refine app_gen s x 153 156 (.agg #[.int .i64 0, .int .i64 0, .int .i64 0]) 3 24 ho Tryz.underlying153 infoArr3 rfl (by decide) B v xs.length (ccells xs) hs hown ⟨b, 0, none⟩ 1 1 [.int .i64 y.w, .int .i64 y.e, .int .i64 y.n] hx rfl ?_ ?_ ?_ ?_ hB ?_
  · intro j u hj
    rw [add_off, Nat.zero_add]
    exact hc j u hj
  · intro u hu; simp at hu; rcases hu with rfl | rfl | rfl <;> rfl
  · simp [maxLen]; omega
  · omega
  · intro v' w' h1 h2 _
    refine h v' w' ?_ h2
    unfold OwnC
    rw [ccells_append, List.length_append]
    exact h1
theorem wpl_app_col {ops : Array Oper} {rest : List Oper} {o : Oper} {a : Act} {W : World} {Q : Exit → Act → World → Prop} (hgd : o.guard = none) (s x : Operand)
    (ho : o.op = .call { callee := .builtin .append, args := #[s, x], argTypes := #[153, 153] }) (B : Nat) (v : Value) (xs : List Col) (y : Col) (hs : a.eval s = v) (hown : OwnC W B v xs)
    (b : Nat) (hx : a.eval x = .slice (some ⟨b, 0, none⟩) 1 1) (hc : ∀ j u, [Value.int .i64 y.w, .int .i64 y.e, .int .i64 y.n][j]? = some u → W.cell? ⟨b, j, none⟩ = some u) (hl : xs.length ≤ 1000000000) (hB : B ≤ W.heap.size)
    (h : ∀ v' w', OwnC w' B v' (xs ++ [y]) → W.grownBy w' v.ownBlock → wpList Tryz.prog ops Q rest (a.put o.dst v') w') : wpList Tryz.prog ops Q (o :: rest) a W :=
  wpList_plain hgd fun _ hK => app_col s x ho B v xs y hs hown b hx hc hl hB fun v' w' h1 h2 => hK _ _ (h v' w' h1 h2)
theorem grown_set0 (w : World) (g j : Nat) (v : Value) : w.grownBy (w.setCell ⟨g, j, none⟩ v) (some g) :=
  ⟨rfl, rfl, rfl, by simp [World.setCell], fun k _ hne => Below.heap_setCell w ⟨g, j, none⟩ v k (fun e => hne (by rw [e]))⟩
structure FrB (B g : Nat) (w w' : World) : Prop where
  os : w'.os = w.os
  tape : w'.tape = w.tape
  output : w'.output = w.output
  size : w.heap.size ≤ w'.heap.size
  block : ∀ k, k < B → k ≠ g → w'.heap[k]? = w.heap[k]?
theorem FrB.refl (B g : Nat) (w : World) : FrB B g w w := ⟨rfl, rfl, rfl, Nat.le_refl _, fun _ _ _ => rfl⟩
theorem FrB.trans {B g : Nat} {w w1 w2 : World} (h : FrB B g w w1) (k : FrB B g w1 w2) : FrB B g w w2 :=
  ⟨k.os.trans h.os, k.tape.trans h.tape, k.output.trans h.output, Nat.le_trans h.size k.size, fun j h1 h2 => (k.block j h1 h2).trans (h.block j h1 h2)⟩
theorem FrB.of_below {B g : Nat} {w w1 : World} (h : Below w.heap.size w w1) (hB : B ≤ w.heap.size) : FrB B g w w1 :=
  ⟨h.os, h.tape, h.output, h.size, fun k hk _ => h.block k (Nat.lt_of_lt_of_le hk hB)⟩
theorem FrB.alloc {B g : Nat} {w w1 : World} (h : FrB B g w w1) (hB : B ≤ w.heap.size) (o : Obj) : FrB B g w (w1.alloc o) :=
  h.trans (FrB.of_below (below_al (Below.refl _ _)) (Nat.le_trans hB h.size))
theorem FrB.drew {B g : Nat} {w w1 : World} (h : FrB B g w w1) : FrB B g w w1.drew := ⟨h.os, h.tape, h.output, h.size, h.block⟩
theorem FrB.drewN {B g : Nat} {w w1 : World} (h : FrB B g w w1) (n : Nat) : FrB B g w (w1.drewN n) := ⟨h.os, h.tape, h.output, h.size, h.block⟩
theorem FrB.set {B g : Nat} {w w1 : World} (h : FrB B g w w1) (j : Nat) (v : Value) : FrB B g w (w1.setCell ⟨g, j, none⟩ v) :=
  ⟨h.os, h.tape, h.output, by have := h.size; simp [World.setCell]; omega, fun k h1 h2 => (Below.heap_setCell w1 ⟨g, j, none⟩ v k h2).trans (h.block k h1 h2)⟩
theorem FrB.setFar {B g a : Nat} {w w1 : World} (h : FrB B g w w1) (ha : B ≤ a) (j : Nat) (v : Value) : FrB B g w (w1.setCell ⟨a, j, none⟩ v) :=
  ⟨h.os, h.tape, h.output, by have := h.size; simp [World.setCell]; omega, fun k h1 h2 => (Below.heap_setCell w1 ⟨a, j, none⟩ v k (by dsimp only; omega)).trans (h.block k h1 h2)⟩
theorem FrB.grown {B g : Nat} {w w1 w2 : World} {v : Value} (h : FrB B g w w1) (hB : B ≤ w.heap.size) (hg : w1.grownBy w2 v.ownBlock) (hv : ∀ k, v.ownBlock = some k → B ≤ k) : FrB B g w w2 :=
  ⟨hg.os.trans h.os, hg.tape.trans h.tape, hg.output.trans h.output, Nat.le_trans h.size hg.size, fun k h1 h2 => (hg.block k (Nat.lt_of_lt_of_le (Nat.lt_of_lt_of_le h1 hB) h.size) (fun e => by have := hv k e.symm; omega)).trans (h.block k h1 h2)⟩
theorem FrB.cell {B g b j : Nat} {w w' : World} {v : Value} (h : FrB B g w w') (hb : b < B) (hn : b ≠ g) (hc : w.cell? ⟨b, j, none⟩ = some v) : w'.cell? ⟨b, j, none⟩ = some v :=
  (World.cell?_of_block (a := ⟨b, j, none⟩) (h.block b hb hn)).trans hc
theorem FrB.tiles {B g : Nat} {w w' : World} {A : Option Addr} {ts : List T4} (h : FrB B g w w') (hT : TileCells w A ts) (hA : 0 < ts.length → ∀ b off, A = some ⟨b, off, none⟩ → b < B ∧ b ≠ g) : TileCells w' A ts := by
  intro k hk
  obtain ⟨b, off, e, hlt, h0, h1, h2, h3⟩ := hT k hk
  obtain ⟨i1, i2⟩ := hA (by omega) b off e
  exact ⟨b, off, e, Nat.lt_of_lt_of_le hlt h.size, h.cell i1 i2 h0, h.cell i1 i2 h1, h.cell i1 i2 h2, h.cell i1 i2 h3⟩
/-- block g holds a strip; its columns are an owned list -/
def StripSt (w : World) (B g : Nat) (c : Int) (A : Option Addr) (n cx : Nat) (h words : Int) (xs : List Col) : Prop :=
  ∃ v, Blk w g [.int .i64 c, .slice A n cx, .int .i64 h, .int .i64 words, v] 155 ∧ OwnC w B v xs
theorem StripSt.move {w w' : World} {B g : Nat} {c : Int} {A : Option Addr} {n cx : Nat} {h words : Int} {xs : List Col} (hs : StripSt w B g c A n cx h words xs) (hb : Below w.heap.size w w') : StripSt w' B g c A n cx h words xs := by
  obtain ⟨v, h1, h2⟩ := hs
  exact ⟨v, h1.under hb, World.ownsRow.kept (row := none) h2 ⟨hb.os, hb.tape, hb.output, hb.size, fun k hk _ => hb.block k hk⟩ (by cases h : v.ownBlock with | none => exact .inl rfl | some k => exact .inr (by simp))⟩
theorem OwnC.shape {w : World} {B : Nat} {v : Value} {xs : List Col} (h : OwnC w B v xs) : ∃ A cx, v = .slice A xs.length cx := by
  obtain ⟨h1, h2⟩ := h
  rcases h2 with ⟨rfl, h2⟩ | ⟨g, cap, cur, rfl, _⟩
  · exact ⟨none, 0, by rw [h2]⟩
  · exact ⟨_, _, rfl⟩
theorem OwnC.ge {w : World} {B : Nat} {v : Value} {xs : List Col} (h : OwnC w B v xs) : ∀ k, v.ownBlock = some k → B ≤ k := fun k hk => (World.ownsRow.lt h k hk).1
theorem OwnC.alloc {w : World} {B : Nat} {v : Value} {xs : List Col} (h : OwnC w B v xs) (o : Obj) : OwnC (w.alloc o) B v xs := World.ownsRow.alloc h o
theorem strip_put {W W' : World} {B g : Nat} {c : Int} {A : Option Addr} {n cx : Nat} {h words : Int} {xs ys : List Col} {v v' : Value} (hG : Blk W g [.int .i64 c, .slice A n cx, .int .i64 h, .int .i64 words, v] 155) (hg : g < B)
    (ho : OwnC W B v xs) (h1 : OwnC W' B v' ys) (h2 : W.grownBy W' v.ownBlock) : StripSt (W'.setCell ⟨g, 4, none⟩ v') B g c A n cx h words ys := by
  refine ⟨v', ?_, ?_⟩
  · have : Blk W' g [.int .i64 c, .slice A n cx, .int .i64 h, .int .i64 words, v] 155 := (h2.block g hG.lt (fun e => by have := ho.ge g e.symm; omega)).trans hG
    exact this.set 4 v'
  · exact World.ownsRow.kept (row := some g) h1 (grown_set0 W' g 4 v') (by cases e : v'.ownBlock with | none => exact .inl rfl | some k => exact .inr (fun e2 => by injection e2 with e2; have := h1.ge k e; omega))
theorem strip_blk {W W' : World} {B g : Nat} {cs : List Value} {T : TypeId} {v : Value} {xs : List Col} (hG : Blk W g cs T) (hg : g < B) (ho : OwnC W B v xs) (h2 : W.grownBy W' v.ownBlock) : Blk W' g cs T :=
  (h2.block g hG.lt (fun e => by have := ho.ge g e.symm; omega)).trans hG
theorem col_new (w : World) (T : TypeId) (k : Col) : ∀ j u, [Value.int .i64 k.w, .int .i64 k.e, .int .i64 k.n][j]? = some u → (w.alloc (.cells #[.int .i64 k.w, .int .i64 k.e, .int .i64 k.n] T)).cell? ⟨w.heap.size, j, none⟩ = some u := by
  intro j u hj
  exact cell_alloc_at w _ T j u (by simpa using hj)
structure StripEnv (w : World) (B g b2 b3 b6 b7 : Nat) (c : Int) (A : Option Addr) (n cx h : Nat) : Prop where
  lt : g < B ∧ b2 < B ∧ b3 < B ∧ b6 < B ∧ b7 < B
  ne : b2 ≠ g ∧ b3 ≠ g ∧ b6 ≠ g ∧ b7 ≠ g
  c6 : w.cell? ⟨b6, 0, none⟩ = some (.pointer (some ⟨g, 0, none⟩))
  c20 : w.cell? ⟨b2, 0, none⟩ = some (.int .i64 c)
  c21 : w.cell? ⟨b2, 1, none⟩ = some (.slice A n cx)
  c3 : w.cell? ⟨b3, 0, none⟩ = some (.int .i64 h)
  c7 : w.cell? ⟨b7, 0, none⟩ = some (.func (.func 217) #[] #[.pointer (some ⟨b6, 0, none⟩), .pointer (some ⟨b2, 0, none⟩), .pointer (some ⟨b3, 0, none⟩), .pointer (some ⟨b7, 0, none⟩)])
theorem StripEnv.move {w w' : World} {B g b2 b3 b6 b7 : Nat} {c : Int} {A : Option Addr} {n cx h : Nat} (e : StripEnv w B g b2 b3 b6 b7 c A n cx h) (f : FrB B g w w') : StripEnv w' B g b2 b3 b6 b7 c A n cx h :=
  ⟨e.lt, e.ne, f.cell e.lt.2.2.2.1 e.ne.2.2.1 e.c6, f.cell e.lt.2.1 e.ne.1 e.c20, f.cell e.lt.2.1 e.ne.1 e.c21, f.cell e.lt.2.2.1 e.ne.2.1 e.c3, f.cell e.lt.2.2.2.2 e.ne.2.2.2 e.c7⟩
end Go.Proofs.YtkgnejhflnekaaaGreat
