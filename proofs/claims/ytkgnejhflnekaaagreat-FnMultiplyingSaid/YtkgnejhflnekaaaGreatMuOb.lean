/- Contracts and lemmas for the statements of this seat, written for this claim; each theorem states its own conditions. -/
import Derived.BigQuiet
import Derived.Laws.EntriesVeiled
import Derived.Test.YtkgnejhflnekaaaGreatMuTg
import Derived.Test.YtkgnejhflnekaaaGreatMuSr
import Derived.Test.YtkgnejhflnekaaaGreatMuMk
import Derived.Test.YtkgnejhflnekaaaGreatMuB
import Derived.Test.YtkgnejhflnekaaaGreatMuBr
set_option linter.unusedVariables false
set_option linter.unusedSimpArgs false
namespace Go.Proofs.YtkgnejhflnekaaaGreat
open Go.RowKit
theorem cellsU8 : Tryz.prog.cellsOf 5 = 1 := by kernel_rfl
theorem u8_wf {z : Int} (h : (Lit.int .u8 z).wf = true) : 0 ≤ z ∧ z < 256 := by
  simp [Lit.wf, IntKind.min, IntKind.max, IntKind.wrap, IntKind.bits, IntKind.signed] at h
  omega
section
variable {H : Type} {enc : TypeId × Value → H} {w : World} {spare : Nat → Bool} {held : Bool}
theorem trod_bytes {n : Nat} {cs : List Value} {x : DataW H × List MemPlace} (h : DataW.trod enc Tryz.prog w 0 spare held n 22 cs = some x) :
    ∃ A cap, ∃ xs : List Int, cs = [.slice A xs.length cap] ∧ xs.length ≤ 9223372036854775807 ∧ BytesC w A xs ∧ ∀ x ∈ xs, 0 ≤ x ∧ x < 256 := by
  rcases Go.Deep.open_slice1 Tryz.underlying22 cellsU8 h with ⟨rfl, _⟩ | ⟨a, len, cap, m, n, V, D, Pl, rfl, _, hl, hm, hmm, _, hi⟩
  · exact ⟨none, 0, [], rfl, by simp, fun k hk => by simp at hk, by simp⟩
  · have hlm : len ≤ m := by rw [hmm]; split <;> omega
    have hel : ∀ i, i < len → ∃ z : Int, w.cell? (a.add i) = some (.int .u8 z) ∧ 0 ≤ z ∧ z < 256 := fun i hil => by
      obtain ⟨hc, ht⟩ := hi i (by omega)
      obtain ⟨z, hz, _, hwf⟩ := DataW.trod_int Tryz.underlying5 ht
      simp at hz
      exact ⟨z, by rw [hc, hz], u8_wf hwf⟩
    obtain ⟨f, hf⟩ : ∃ f : Nat → Int, ∀ i, i < len → w.cell? (a.add i) = some (.int .u8 (f i)) ∧ 0 ≤ f i ∧ f i < 256 :=
      ⟨fun i => if h : i < len then (hel i h).choose else 0, fun i hil => by simp only [dif_pos hil]; exact (hel i hil).choose_spec⟩
    refine ⟨some a, cap, (List.range len).map f, by simp, by simp [maxLen] at hm; simp; omega, fun k hk => ?_, fun x hx => ?_⟩
    rotate_left
    · simp only [List.mem_map, List.mem_range] at hx
      obtain ⟨k, hk, rfl⟩ := hx
      exact (hf k hk).2
    have hk' : k < len := by simpa using hk
    have hspot : a.spot = none := by
      have h0 := (hf 0 (by omega)).1
      simp only [Addr.add, if_true] at h0
      cases hs : a.spot with
      | none => rfl
      | some s =>
        exfalso
        unfold World.cell? at h0
        split at h0
        · simp [hs] at h0
        · simp at h0
    obtain ⟨b, off, sp⟩ := a
    simp only at hspot
    subst hspot
    have hk2 := (hf k hk').1
    simp only [add_off] at hk2
    exact ⟨b, off, rfl, by rw [hk2]; simp⟩
end

end Go.Proofs.YtkgnejhflnekaaaGreat
namespace Go.Proofs.YtkgnejhflnekaaaGreat
open Go.RowKit
/-- a column: its north colour, the codes of its west and its east word, and its south colour -/
structure Col where
  n : Int
  w : Int
  e : Int
  s : Int
  deriving DecidableEq, Inhabited
def kid (c : Int) (first : Bool) (k : Col) (t : T4) : Col := ⟨if first = true then t.b else k.n, k.w * c + t.a, k.e * c + t.c, t.d⟩
def fits (first : Bool) (k : Col) (t : T4) : Bool := first || decide (t.b = k.s)
def kids (c : Int) (ts : List T4) (first : Bool) (k : Col) : List Col := (ts.filter (fits first k)).map (kid c first k)
/-- the columns that begin with k and go on over m tiles more, of h -/
def dfs (c : Int) (ts : List T4) (h : Nat) : Nat → Col → List Col
  | 0, k => [k]
  | m + 1, k => (kids c ts (decide (m + 1 = h)) k).flatMap (dfs c ts h m)
theorem kids_succ (c : Int) (ts : List T4) (first : Bool) (k : Col) (j : Nat) (hj : j < ts.length) :
    kids c (ts.take (j + 1)) first k = kids c (ts.take j) first k ++ if fits first k ts[j] = true then [kid c first k ts[j]] else [] := by
  unfold kids
  rw [List.take_succ_eq_append_getElem hj, List.filter_append, List.map_append]
  congr 1
  by_cases h : fits first k ts[j] = true <;> simp [h]
def dfsTo (c : Int) (ts : List T4) (h m : Nat) (k : Col) (j : Nat) : List Col := (kids c (ts.take j) (decide (m + 1 = h)) k).flatMap (dfs c ts h m)
theorem dfsTo_zero (c : Int) (ts : List T4) (h m : Nat) (k : Col) : dfsTo c ts h m k 0 = [] := by simp [dfsTo, kids]
theorem dfsTo_all (c : Int) (ts : List T4) (h m : Nat) (k : Col) : dfsTo c ts h m k ts.length = dfs c ts h (m + 1) k := by simp [dfsTo, dfs]
theorem dfsTo_succ (c : Int) (ts : List T4) (h m : Nat) (k : Col) (j : Nat) (hj : j < ts.length) :
    dfsTo c ts h m k (j + 1) = dfsTo c ts h m k j ++ if fits (decide (m + 1 = h)) k ts[j] = true then dfs c ts h m (kid c (decide (m + 1 = h)) k ts[j]) else [] := by
  unfold dfsTo
  rw [kids_succ _ _ _ _ _ hj, List.flatMap_append]
  congr 1
  by_cases h : fits (decide (m + 1 = h)) k ts[j] = true <;> simp [h]
theorem dfsTo_le (c : Int) (ts : List T4) (h m : Nat) (k : Col) : ∀ (j d : Nat), j + d = ts.length → (dfsTo c ts h m k j).length ≤ (dfs c ts h (m + 1) k).length
  | j, 0, hd => by rw [← dfsTo_all]; have : j = ts.length := by omega
                   subst this; exact Nat.le_refl _
  | j, d + 1, hd => by
    refine Nat.le_trans ?_ (dfsTo_le c ts h m k (j + 1) d (by omega))
    rw [dfsTo_succ _ _ _ _ _ _ (by omega), List.length_append]
    exact Nat.le_add_right _ _
theorem dfs_len (c : Int) (ts : List T4) (h : Nat) : ∀ (m : Nat) (k : Col), (dfs c ts h m k).length ≤ ts.length ^ m
  | 0, k => by simp [dfs]
  | m + 1, k => by
    have hk : (kids c ts (decide (m + 1 = h)) k).length ≤ ts.length := by
      unfold kids; rw [List.length_map]; exact List.length_filter_le ..
    have hf : ∀ l : List Col, (l.flatMap (dfs c ts h m)).length ≤ l.length * ts.length ^ m := by
      intro l
      induction l with
      | nil => simp
      | cons a l ih =>
        rw [List.flatMap_cons, List.length_append, List.length_cons, Nat.add_mul, Nat.one_mul]
        have := dfs_len c ts h m a
        omega
    show ((kids c ts (decide (m + 1 = h)) k).flatMap (dfs c ts h m)).length ≤ _
    refine Nat.le_trans (hf _) ?_
    rw [Nat.pow_succ, Nat.mul_comm (ts.length ^ m)]
    exact Nat.mul_le_mul_right _ hk
/-- how the program keeps a column: west word, east word, north colour -/
def ccells (xs : List Col) : List Value := xs.flatMap fun k => [.int .i64 k.w, .int .i64 k.e, .int .i64 k.n]
theorem ccells_append (xs ys : List Col) : ccells (xs ++ ys) = ccells xs ++ ccells ys := by simp [ccells]
theorem ccells_length (xs : List Col) : (ccells xs).length = xs.length * 3 := by
  induction xs with
  | nil => rfl
  | cons a l ih => simp only [ccells, List.flatMap_cons, List.length_append, List.length_cons, List.length_nil]; unfold ccells at ih; omega
theorem ccells_get (xs : List Col) (k j : Nat) (hk : k < xs.length) (hj : j < 3) : (ccells xs)[k * 3 + j]? = [Value.int .i64 xs[k].w, .int .i64 xs[k].e, .int .i64 xs[k].n][j]? := by
  induction xs generalizing k with
  | nil => simp at hk
  | cons t ts ih =>
    have e : ccells (t :: ts) = [.int .i64 t.w, .int .i64 t.e, .int .i64 t.n] ++ ccells ts := rfl
    rw [e]
    cases k with
    | zero => rw [List.getElem?_append_left (by simp; omega)]; simp
    | succ k =>
      rw [List.getElem?_append_right (by simp; omega)]
      have := ih k (by simpa using hk)
      rw [show (k + 1) * 3 + j - [Value.int .i64 t.w, .int .i64 t.e, .int .i64 t.n].length = k * 3 + j by simp; omega]
      simpa using this
theorem infoArr3 : (Tryz.prog.info? 156).map (fun i => (i.zero, i.size, i.bytes)) = some (some (.agg #[.int .i64 0, .int .i64 0, .int .i64 0]), 3, 24) := by kernel_rfl
/-- columns that the call made and owns -/
def OwnC (w : World) (B : Nat) (v : Value) (xs : List Col) : Prop := w.ownsRow B 156 3 v xs.length (ccells xs)
theorem OwnC.nil (w : World) (B : Nat) : OwnC w B (.slice none 0 0) [] := World.ownsRow_nil _ _ _ _
theorem app_col {o : Oper} {a : Act} {W : World} {K : Act → World → Prop} {Q : Exit → Act → World → Prop} (s x : Operand)
    (ho : o.op = .call { callee := .builtin .append, args := #[s, x], argTypes := #[153, 153] }) (B : Nat) (v : Value) (xs : List Col) (y : Col) (hs : a.eval s = v) (hown : OwnC W B v xs)
    (b : Nat) (hx : a.eval x = .slice (some ⟨b, 0, none⟩) 1 1) (hc : ∀ j u, [Value.int .i64 y.w, .int .i64 y.e, .int .i64 y.n][j]? = some u → W.cell? ⟨b, j, none⟩ = some u) (hl : xs.length ≤ 1000000000) (hB : B ≤ W.heap.size)
    (h : ∀ v' w', OwnC w' B v' (xs ++ [y]) → W.grownBy w' v.ownBlock → K (a.put o.dst v') w') : o.wp Tryz.prog a W K Q := by
  refine app_gen s x 153 156 (.agg #[.int .i64 0, .int .i64 0, .int .i64 0]) 3 24 ho Tryz.underlying153 infoArr3 rfl (by decide) B v xs.length (ccells xs) hs hown ⟨b, 0, none⟩ 1 1 [.int .i64 y.w, .int .i64 y.e, .int .i64 y.n] hx rfl ?_ ?_ ?_ ?_ hB ?_
  · intro j u hj
    rw [add_off, Nat.zero_add]
    exact hc j u hj
  · intro u hu; simp at hu; rcases hu with rfl | rfl | rfl <;> rfl
  · simp [maxLen]; omega
  · omega
  · intro v' w' h1 h2 _
    refine h v' w' ?_ h2
    unfold OwnC
    rw [ccells_append, List.length_append]
    exact h1
theorem wpl_app_col {ops : Array Oper} {rest : List Oper} {o : Oper} {a : Act} {W : World} {Q : Exit → Act → World → Prop} (hgd : o.guard = none) (s x : Operand)
    (ho : o.op = .call { callee := .builtin .append, args := #[s, x], argTypes := #[153, 153] }) (B : Nat) (v : Value) (xs : List Col) (y : Col) (hs : a.eval s = v) (hown : OwnC W B v xs)
    (b : Nat) (hx : a.eval x = .slice (some ⟨b, 0, none⟩) 1 1) (hc : ∀ j u, [Value.int .i64 y.w, .int .i64 y.e, .int .i64 y.n][j]? = some u → W.cell? ⟨b, j, none⟩ = some u) (hl : xs.length ≤ 1000000000) (hB : B ≤ W.heap.size)
    (h : ∀ v' w', OwnC w' B v' (xs ++ [y]) → W.grownBy w' v.ownBlock → wpList Tryz.prog ops Q rest (a.put o.dst v') w') : wpList Tryz.prog ops Q (o :: rest) a W :=
  wpList_plain hgd fun _ hK => app_col s x ho B v xs y hs hown b hx hc hl hB fun v' w' h1 h2 => hK _ _ (h v' w' h1 h2)
theorem grown_set0 (w : World) (g j : Nat) (v : Value) : w.grownBy (w.setCell ⟨g, j, none⟩ v) (some g) :=
  ⟨rfl, rfl, rfl, by simp [World.setCell], fun k _ hne => Below.heap_setCell w ⟨g, j, none⟩ v k (fun e => hne (by rw [e]))⟩
structure FrB (B g : Nat) (w w' : World) : Prop where
  os : w'.os = w.os
  tape : w'.tape = w.tape
  output : w'.output = w.output
  size : w.heap.size ≤ w'.heap.size
  block : ∀ k, k < B → k ≠ g → w'.heap[k]? = w.heap[k]?
theorem FrB.refl (B g : Nat) (w : World) : FrB B g w w := ⟨rfl, rfl, rfl, Nat.le_refl _, fun _ _ _ => rfl⟩
theorem FrB.trans {B g : Nat} {w w1 w2 : World} (h : FrB B g w w1) (k : FrB B g w1 w2) : FrB B g w w2 :=
  ⟨k.os.trans h.os, k.tape.trans h.tape, k.output.trans h.output, Nat.le_trans h.size k.size, fun j h1 h2 => (k.block j h1 h2).trans (h.block j h1 h2)⟩
theorem FrB.of_below {B g : Nat} {w w1 : World} (h : Below w.heap.size w w1) (hB : B ≤ w.heap.size) : FrB B g w w1 :=
  ⟨h.os, h.tape, h.output, h.size, fun k hk _ => h.block k (Nat.lt_of_lt_of_le hk hB)⟩
theorem FrB.alloc {B g : Nat} {w w1 : World} (h : FrB B g w w1) (hB : B ≤ w.heap.size) (o : Obj) : FrB B g w (w1.alloc o) :=
  h.trans (FrB.of_below (below_al (Below.refl _ _)) (Nat.le_trans hB h.size))
theorem FrB.drew {B g : Nat} {w w1 : World} (h : FrB B g w w1) : FrB B g w w1.drew := ⟨h.os, h.tape, h.output, h.size, h.block⟩
theorem FrB.drewN {B g : Nat} {w w1 : World} (h : FrB B g w w1) (n : Nat) : FrB B g w (w1.drewN n) := ⟨h.os, h.tape, h.output, h.size, h.block⟩
theorem FrB.set {B g : Nat} {w w1 : World} (h : FrB B g w w1) (j : Nat) (v : Value) : FrB B g w (w1.setCell ⟨g, j, none⟩ v) :=
  ⟨h.os, h.tape, h.output, by have := h.size; simp [World.setCell]; omega, fun k h1 h2 => (Below.heap_setCell w1 ⟨g, j, none⟩ v k h2).trans (h.block k h1 h2)⟩
theorem FrB.setFar {B g a : Nat} {w w1 : World} (h : FrB B g w w1) (ha : B ≤ a) (j : Nat) (v : Value) : FrB B g w (w1.setCell ⟨a, j, none⟩ v) :=
  ⟨h.os, h.tape, h.output, by have := h.size; simp [World.setCell]; omega, fun k h1 h2 => (Below.heap_setCell w1 ⟨a, j, none⟩ v k (by dsimp only; omega)).trans (h.block k h1 h2)⟩
theorem FrB.grown {B g : Nat} {w w1 w2 : World} {v : Value} (h : FrB B g w w1) (hB : B ≤ w.heap.size) (hg : w1.grownBy w2 v.ownBlock) (hv : ∀ k, v.ownBlock = some k → B ≤ k) : FrB B g w w2 :=
  ⟨hg.os.trans h.os, hg.tape.trans h.tape, hg.output.trans h.output, Nat.le_trans h.size hg.size, fun k h1 h2 => (hg.block k (Nat.lt_of_lt_of_le (Nat.lt_of_lt_of_le h1 hB) h.size) (fun e => by have := hv k e.symm; omega)).trans (h.block k h1 h2)⟩
theorem FrB.cell {B g b j : Nat} {w w' : World} {v : Value} (h : FrB B g w w') (hb : b < B) (hn : b ≠ g) (hc : w.cell? ⟨b, j, none⟩ = some v) : w'.cell? ⟨b, j, none⟩ = some v :=
  (World.cell?_of_block (a := ⟨b, j, none⟩) (h.block b hb hn)).trans hc
theorem FrB.tiles {B g : Nat} {w w' : World} {A : Option Addr} {ts : List T4} (h : FrB B g w w') (hT : TileCells w A ts) (hA : 0 < ts.length → ∀ b off, A = some ⟨b, off, none⟩ → b < B ∧ b ≠ g) : TileCells w' A ts := by
  intro k hk
  obtain ⟨b, off, e, hlt, h0, h1, h2, h3⟩ := hT k hk
  obtain ⟨i1, i2⟩ := hA (by omega) b off e
  exact ⟨b, off, e, Nat.lt_of_lt_of_le hlt h.size, h.cell i1 i2 h0, h.cell i1 i2 h1, h.cell i1 i2 h2, h.cell i1 i2 h3⟩
/-- block g holds a strip; its columns are an owned list -/
def StripSt (w : World) (B g : Nat) (c : Int) (A : Option Addr) (n cx : Nat) (h words : Int) (xs : List Col) : Prop :=
  ∃ v, Blk w g [.int .i64 c, .slice A n cx, .int .i64 h, .int .i64 words, v] 155 ∧ OwnC w B v xs
theorem StripSt.move {w w' : World} {B g : Nat} {c : Int} {A : Option Addr} {n cx : Nat} {h words : Int} {xs : List Col} (hs : StripSt w B g c A n cx h words xs) (hb : Below w.heap.size w w') : StripSt w' B g c A n cx h words xs := by
  obtain ⟨v, h1, h2⟩ := hs
  exact ⟨v, h1.under hb, World.ownsRow.kept (row := none) h2 ⟨hb.os, hb.tape, hb.output, hb.size, fun k hk _ => hb.block k hk⟩ (by cases h : v.ownBlock with | none => exact .inl rfl | some k => exact .inr (by simp))⟩
theorem OwnC.shape {w : World} {B : Nat} {v : Value} {xs : List Col} (h : OwnC w B v xs) : ∃ A cx, v = .slice A xs.length cx := by
  obtain ⟨h1, h2⟩ := h
  rcases h2 with ⟨rfl, h2⟩ | ⟨g, cap, cur, rfl, _⟩
  · exact ⟨none, 0, by rw [h2]⟩
  · exact ⟨_, _, rfl⟩
theorem OwnC.ge {w : World} {B : Nat} {v : Value} {xs : List Col} (h : OwnC w B v xs) : ∀ k, v.ownBlock = some k → B ≤ k := fun k hk => (World.ownsRow.lt h k hk).1
theorem OwnC.alloc {w : World} {B : Nat} {v : Value} {xs : List Col} (h : OwnC w B v xs) (o : Obj) : OwnC (w.alloc o) B v xs := World.ownsRow.alloc h o
theorem strip_put {W W' : World} {B g : Nat} {c : Int} {A : Option Addr} {n cx : Nat} {h words : Int} {xs ys : List Col} {v v' : Value} (hG : Blk W g [.int .i64 c, .slice A n cx, .int .i64 h, .int .i64 words, v] 155) (hg : g < B)
    (ho : OwnC W B v xs) (h1 : OwnC W' B v' ys) (h2 : W.grownBy W' v.ownBlock) : StripSt (W'.setCell ⟨g, 4, none⟩ v') B g c A n cx h words ys := by
  refine ⟨v', ?_, ?_⟩
  · have : Blk W' g [.int .i64 c, .slice A n cx, .int .i64 h, .int .i64 words, v] 155 := (h2.block g hG.lt (fun e => by have := ho.ge g e.symm; omega)).trans hG
    exact this.set 4 v'
  · exact World.ownsRow.kept (row := some g) h1 (grown_set0 W' g 4 v') (by cases e : v'.ownBlock with | none => exact .inl rfl | some k => exact .inr (fun e2 => by injection e2 with e2; have := h1.ge k e; omega))
theorem strip_blk {W W' : World} {B g : Nat} {cs : List Value} {T : TypeId} {v : Value} {xs : List Col} (hG : Blk W g cs T) (hg : g < B) (ho : OwnC W B v xs) (h2 : W.grownBy W' v.ownBlock) : Blk W' g cs T :=
  (h2.block g hG.lt (fun e => by have := ho.ge g e.symm; omega)).trans hG
theorem col_new (w : World) (T : TypeId) (k : Col) : ∀ j u, [Value.int .i64 k.w, .int .i64 k.e, .int .i64 k.n][j]? = some u → (w.alloc (.cells #[.int .i64 k.w, .int .i64 k.e, .int .i64 k.n] T)).cell? ⟨w.heap.size, j, none⟩ = some u := by
  intro j u hj
  exact cell_alloc_at w _ T j u (by simpa using hj)
structure StripEnv (w : World) (B g b2 b3 b6 b7 : Nat) (c : Int) (A : Option Addr) (n cx h : Nat) : Prop where
  lt : g < B ∧ b2 < B ∧ b3 < B ∧ b6 < B ∧ b7 < B
  ne : b2 ≠ g ∧ b3 ≠ g ∧ b6 ≠ g ∧ b7 ≠ g
  c6 : w.cell? ⟨b6, 0, none⟩ = some (.pointer (some ⟨g, 0, none⟩))
  c20 : w.cell? ⟨b2, 0, none⟩ = some (.int .i64 c)
  c21 : w.cell? ⟨b2, 1, none⟩ = some (.slice A n cx)
  c3 : w.cell? ⟨b3, 0, none⟩ = some (.int .i64 h)
  c7 : w.cell? ⟨b7, 0, none⟩ = some (.func (.func 217) #[] #[.pointer (some ⟨b6, 0, none⟩), .pointer (some ⟨b2, 0, none⟩), .pointer (some ⟨b3, 0, none⟩), .pointer (some ⟨b7, 0, none⟩)])
theorem StripEnv.move {w w' : World} {B g b2 b3 b6 b7 : Nat} {c : Int} {A : Option Addr} {n cx h : Nat} (e : StripEnv w B g b2 b3 b6 b7 c A n cx h) (f : FrB B g w w') : StripEnv w' B g b2 b3 b6 b7 c A n cx h :=
  ⟨e.lt, e.ne, f.cell e.lt.2.2.2.1 e.ne.2.2.1 e.c6, f.cell e.lt.2.1 e.ne.1 e.c20, f.cell e.lt.2.1 e.ne.1 e.c21, f.cell e.lt.2.2.1 e.ne.2.1 e.c3, f.cell e.lt.2.2.2.2 e.ne.2.2.2 e.c7⟩
end Go.Proofs.YtkgnejhflnekaaaGreat
namespace Go.Proofs.YtkgnejhflnekaaaGreat
open Go.RowKit
/-- columns read as a list -/
def ColCells (w : World) (A : Option Addr) (xs : List Col) : Prop :=
  ∀ k (h : k < xs.length), ∃ b off, A = some ⟨b, off, none⟩ ∧ b < w.heap.size ∧ w.cell? ⟨b, off + k * 3, none⟩ = some (.int .i64 xs[k].w) ∧ w.cell? ⟨b, off + k * 3 + 1, none⟩ = some (.int .i64 xs[k].e) ∧ w.cell? ⟨b, off + k * 3 + 2, none⟩ = some (.int .i64 xs[k].n)
theorem ColCells.below {w w1 : World} {A : Option Addr} {xs : List Col} (h : ColCells w A xs) (hb : Below w.heap.size w w1) : ColCells w1 A xs := by
  intro k hk
  obtain ⟨b, off, hA, hlt, h0, h1, h2⟩ := h k hk
  exact ⟨b, off, hA, Nat.lt_of_lt_of_le hlt hb.size, (hb.cell (p := ⟨b, _, none⟩) hlt).trans h0, (hb.cell (p := ⟨b, _, none⟩) hlt).trans h1, (hb.cell (p := ⟨b, _, none⟩) hlt).trans h2⟩
theorem OwnC.cols {w : World} {B n cx : Nat} {A : Option Addr} {xs : List Col} (h : OwnC w B (.slice A n cx) xs) : ColCells w A xs := by
  intro k hk
  have h0 := h
  obtain ⟨h1, h2⟩ := h
  rcases h2 with ⟨e1, e2⟩ | ⟨g, cap, cur, e1, e2, e3, _⟩
  · omega
  · injection e1 with a1 a2 a3
    subst a1 a2 a3
    have hc := fun j (hj : j < 3) => World.ownsRow.cellAt h0 (k * 3 + j) (by omega)
    have hg := fun j (hj : j < 3) => ccells_get xs k j hk hj
    have c0 := hc 0 (by omega)
    have c1 := hc 1 (by omega)
    have c2 := hc 2 (by omega)
    rw [hg 0 (by omega)] at c0
    rw [hg 1 (by omega)] at c1
    rw [hg 2 (by omega)] at c2
    simp only [Nat.add_zero, List.getElem?_cons_zero, List.getElem?_cons_succ] at c0 c1 c2
    exact ⟨g, 0, rfl, World.block_lt_of_cell? w _ c0, by rw [Nat.zero_add]; exact c0, by rw [Nat.zero_add]; exact c1, by rw [Nat.zero_add]; exact c2⟩
/-- block g holds a strip that is only read any more -/
def StripR (w : World) (g : Nat) (c : Int) (A : Option Addr) (n cx : Nat) (h words : Int) (xs : List Col) : Prop :=
  ∃ C cc, Blk w g [.int .i64 c, .slice A n cx, .int .i64 h, .int .i64 words, .slice C xs.length cc] 155 ∧ ColCells w C xs
theorem StripR.below {w w1 : World} {g : Nat} {c : Int} {A : Option Addr} {n cx : Nat} {h words : Int} {xs : List Col} (hs : StripR w g c A n cx h words xs) (hb : Below w.heap.size w w1) : StripR w1 g c A n cx h words xs := by
  obtain ⟨C, cc, h1, h2⟩ := hs
  exact ⟨C, cc, h1.under hb, h2.below hb⟩
theorem StripSt.read {w : World} {B g : Nat} {c : Int} {A : Option Addr} {n cx : Nat} {h words : Int} {xs : List Col} (hs : StripSt w B g c A n cx h words xs) : StripR w g c A n cx h words xs := by
  obtain ⟨v, h1, h2⟩ := hs
  obtain ⟨C, cc, rfl⟩ := h2.shape
  exact ⟨C, cc, h1, h2.cols⟩
def col0 : Col := ⟨0, 0, 0, 0⟩
def lev (c : Int) (ts : List T4) : Nat → List Col
  | 0 => [⟨-1, 0, 0, -1⟩]
  | i + 1 => (lev c ts i).flatMap (kids c ts (decide (i = 0)))
def upc (c : Int) (ts : List T4) (h : Nat) : Nat → List Col → List Col
  | 0, l => l
  | m + 1, l => upc c ts h m (l.flatMap (kids c ts (decide (m + 1 = h))))
theorem upc_dfs (c : Int) (ts : List T4) (h : Nat) : ∀ (m : Nat) (l : List Col), l.flatMap (dfs c ts h m) = upc c ts h m l
  | 0, l => by
    show l.flatMap (fun k => [k]) = l
    induction l with
    | nil => rfl
    | cons a l ih => simp
  | m + 1, l => by
    show l.flatMap (fun k => (kids c ts (decide (m + 1 = h)) k).flatMap (dfs c ts h m)) = upc c ts h m (l.flatMap (kids c ts (decide (m + 1 = h))))
    rw [← upc_dfs c ts h m, List.flatMap_assoc]
theorem upc_lev (c : Int) (ts : List T4) (h : Nat) : ∀ m, m < h → upc c ts h m (lev c ts (h - m)) = lev c ts h
  | 0, _ => rfl
  | m + 1, hm => by
    show upc c ts h m ((lev c ts (h - (m + 1))).flatMap (kids c ts (decide (m + 1 = h)))) = lev c ts h
    rw [← upc_lev c ts h m (by omega)]
    have e : h - m = (h - (m + 1)) + 1 := by omega
    rw [e]
    show _ = upc c ts h m ((lev c ts (h - (m + 1))).flatMap (kids c ts (decide (h - (m + 1) = 0))))
    rw [show decide (m + 1 = h) = decide (h - (m + 1) = 0) by congr 1; apply propext; constructor <;> intro _ <;> omega]
theorem dfs_lev (c : Int) (ts : List T4) (h : Nat) (hh : 1 ≤ h) : dfs c ts h h col0 = lev c ts h := by
  obtain ⟨m, rfl⟩ : ∃ m, h = m + 1 := ⟨h - 1, by omega⟩
  have e := upc_lev c ts (m + 1) m (by omega)
  rw [← e, show m + 1 - m = 1 by omega]
  show (kids c ts (decide (m + 1 = m + 1)) col0).flatMap (dfs c ts (m + 1) m) = upc c ts (m + 1) m (lev c ts 1)
  rw [← upc_dfs]
  congr 1
  show kids c ts (decide (m + 1 = m + 1)) col0 = [(⟨-1, 0, 0, -1⟩ : Col)].flatMap (kids c ts (decide (0 = 0)))
  have h1 : kid c true col0 = kid c true ⟨-1, 0, 0, -1⟩ := by funext t; simp [kid, col0]
  have h2 : fits true col0 = fits true ⟨-1, 0, 0, -1⟩ := by funext t; simp [fits]
  simp only [decide_true, List.flatMap_cons, List.flatMap_nil, List.append_nil, kids, h1, h2]
/-- the colours of all tiles are less than c -/
def InC (c : Int) (ts : List T4) : Prop := ∀ t ∈ ts, (0 ≤ t.a ∧ t.a < c) ∧ (0 ≤ t.b ∧ t.b < c) ∧ (0 ≤ t.c ∧ t.c < c) ∧ (0 ≤ t.d ∧ t.d < c)
theorem isSetB_inC {c : Int} {ts : List T4} (h : isSetB c ts = true) : InC c ts := by
  obtain ⟨h1, h2, h3⟩ := isSetB_parts h
  intro t ht
  obtain ⟨k, hk, rfl⟩ := List.getElem_of_mem ht
  have h4 := h1 k hk
  unfold okAt at h4
  simp only [Bool.and_eq_true] at h4
  have h5 := h4.1
  rw [getD_at hk] at h5
  have hw : wrap64 (c - 1) = c - 1 := by unfold wrap64; omega
  simp only [isTileB, T4.l, List.all_cons, List.all_nil, Bool.and_eq_true, inR_iff, hw] at h5
  omega
theorem mem_kids {c : Int} {ts : List T4} {f : Bool} {k x : Col} (h : x ∈ kids c ts f k) : ∃ t ∈ ts, fits f k t = true ∧ x = kid c f k t := by
  unfold kids at h
  rw [List.mem_map] at h
  obtain ⟨t, ht, rfl⟩ := h
  rw [List.mem_filter] at ht
  exact ⟨t, ht.1, ht.2, rfl⟩
theorem lev_codes {c : Int} {ts : List T4} (hc : 1 ≤ c) (hI : InC c ts) : ∀ i, ∀ x ∈ lev c ts i, (0 ≤ x.w ∧ x.w < c ^ i) ∧ (0 ≤ x.e ∧ x.e < c ^ i) ∧ (1 ≤ i → 0 ≤ x.n ∧ x.n < c)
  | 0, x, hx => by simp only [lev, List.mem_singleton] at hx; subst hx; simp
  | i + 1, x, hx => by
    have ih := lev_codes hc hI i
    simp only [lev, List.mem_flatMap] at hx
    obtain ⟨k, hk, hx⟩ := hx
    obtain ⟨t, ht, hf, rfl⟩ := mem_kids hx
    obtain ⟨⟨a1, a2⟩, ⟨b1, b2⟩, ⟨c1, c2⟩, _⟩ := hI t ht
    obtain ⟨⟨w1, w2⟩, ⟨e1, e2⟩, n1⟩ := ih k hk
    have p : c ^ (i + 1) = c ^ i * c := Int.pow_succ c i
    have q1 : (k.w + 1) * c ≤ c ^ i * c := Int.mul_le_mul_of_nonneg_right (by omega) (by omega)
    have q2 : (k.e + 1) * c ≤ c ^ i * c := Int.mul_le_mul_of_nonneg_right (by omega) (by omega)
    rw [Int.add_mul, Int.one_mul] at q1 q2
    have r1 : 0 ≤ k.w * c := Int.mul_nonneg w1 (by omega)
    have r2 : 0 ≤ k.e * c := Int.mul_nonneg e1 (by omega)
    simp only [kid]
    refine ⟨⟨by omega, by omega⟩, ⟨by omega, by omega⟩, fun _ => ?_⟩
    by_cases hi : i = 0
    · subst hi; simp; omega
    · simp only [hi, decide_false, Bool.false_eq_true, if_false]; exact n1 (by omega)
theorem lev_len (c : Int) (ts : List T4) : ∀ i, (lev c ts i).length ≤ ts.length ^ i
  | 0 => by simp [lev]
  | i + 1 => by
    have ih := lev_len c ts i
    have hf : ∀ l : List Col, (l.flatMap (kids c ts (decide (i = 0)))).length ≤ l.length * ts.length := by
      intro l
      induction l with
      | nil => simp
      | cons a l ih2 =>
        rw [List.flatMap_cons, List.length_append, List.length_cons, Nat.add_mul, Nat.one_mul]
        have : (kids c ts (decide (i = 0)) a).length ≤ ts.length := by unfold kids; rw [List.length_map]; exact List.length_filter_le ..
        omega
    refine Nat.le_trans (hf _) ?_
    rw [Nat.pow_succ]
    exact Nat.mul_le_mul_right _ ih
theorem pow16 {n h : Nat} (hn : n ≤ 16) (hh : h ≤ 3) : n ^ h ≤ 4096 :=
  Nat.le_trans (Nat.pow_le_pow_left hn h) (Nat.le_trans (Nat.pow_le_pow_right (by decide) hh) (by decide))
end Go.Proofs.YtkgnejhflnekaaaGreat
namespace Go.Proofs.YtkgnejhflnekaaaGreat
open Go.RowKit
def crow (k : Col) : List Int := [k.n, k.w, k.e, k.s]
def crows (l : List Col) : List (List Int) := l.map crow
theorem crows_len (l : List Col) : (crows l).length = l.length := by simp [crows]
theorem crows_append (l m : List Col) : crows (l ++ m) = crows l ++ crows m := by simp [crows]
theorem grown_dr {w W : World} {r : Option Nat} (h : w.grownBy W r) : w.grownBy W.drew r := ⟨h.os, h.tape, h.output, h.size, h.block⟩
theorem OwnII.lt {w : World} {B : Nat} {v : Value} {L : List (List Int)} (h : OwnII w B v L) : ∀ k, v.ownBlock = some k → B ≤ k ∧ k < w.heap.size := by
  obtain ⟨vs, h1, _⟩ := h
  exact fun k hk => World.ownsRow.lt h1 k hk
theorem OwnII.lit {w : World} {B g n : Nat} {cs : Array Value} {xs : List Int} (hg : w.heap.size = g) (hn : n = xs.length) (hc : cs.toList = ints xs) (hl : xs.length ≤ 1000000) (hB : B ≤ w.heap.size) :
    OwnII ((w.alloc (.cells cs 2)).alloc (.cells #[.slice (some ⟨g, 0, none⟩) n n] 35)) B (.slice (some ⟨g + 1, 0, none⟩) 1 1) [xs] := by
  subst hg hn
  refine ⟨[.slice (some ⟨w.heap.size, 0, none⟩) xs.length xs.length], ?_, fun i h h' => ?_, fun i j h h' hij => ?_, fun i h => ?_⟩
  · have := World.ownsRow_lit (base := B) (e := 35) (size := 1) (w.alloc (.cells cs 2)) #[.slice (some ⟨w.heap.size, 0, none⟩) xs.length xs.length] 1 (by simp; omega) (by simp [maxLen]) (by simp)
    simpa using this
  · have hi : i = 0 := by simp at h; omega
    subst hi
    exact (OwnI.made w B cs xs hc hB (by omega)).alloc _
  · simp at h h'; omega
  · have hi : i = 0 := by simp at h; omega
    subst hi
    exact Apart.blk (by omega)
end Go.Proofs.YtkgnejhflnekaaaGreat
