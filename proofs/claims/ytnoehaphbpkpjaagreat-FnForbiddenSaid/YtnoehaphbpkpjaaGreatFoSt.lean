/- Contracts and lemmas for the statements of this seat, written for this claim; each theorem states its own conditions. -/
import Derived.BigQuiet
import Derived.Test.YtnoehaphbpkpjaaGreatFoBy
import Derived.Test.YtnoehaphbpkpjaaGreatFoBk
set_option linter.unusedVariables false
set_option linter.unusedSimpArgs false
namespace Go.Proofs.YtnoehaphbpkpjaaGreat
open Go.RowKit
/-- a column: its north colour, the codes of its west and its east word, and its south colour -/
structure Col where
  n : Int
  w : Int
  e : Int
  s : Int
  deriving DecidableEq, Inhabited
def kid (c : Int) (first : Bool) (k : Col) (t : T4) : Col := ⟨if first = true then t.b else k.n, k.w * c + t.a, k.e * c + t.c, t.d⟩
def fits (first : Bool) (k : Col) (t : T4) : Bool := first || decide (t.b = k.s)
def kids (c : Int) (ts : List T4) (first : Bool) (k : Col) : List Col := (ts.filter (fits first k)).map (kid c first k)
/-- the columns that begin with k and go on over m tiles more, of h -/
def dfs (c : Int) (ts : List T4) (h : Nat) : Nat → Col → List Col
  | 0, k => [k]
  | m + 1, k => (kids c ts (decide (m + 1 = h)) k).flatMap (dfs c ts h m)
theorem kids_succ (c : Int) (ts : List T4) (first : Bool) (k : Col) (j : Nat) (hj : j < ts.length) :
    kids c (ts.take (j + 1)) first k = kids c (ts.take j) first k ++ if fits first k ts[j] = true then [kid c first k ts[j]] else [] := by
  unfold kids
  rw [List.take_succ_eq_append_getElem hj, List.filter_append, List.map_append]
  congr 1
  by_cases h : fits first k ts[j] = true <;> simp [h]
def dfsTo (c : Int) (ts : List T4) (h m : Nat) (k : Col) (j : Nat) : List Col := (kids c (ts.take j) (decide (m + 1 = h)) k).flatMap (dfs c ts h m)
theorem dfsTo_zero (c : Int) (ts : List T4) (h m : Nat) (k : Col) : dfsTo c ts h m k 0 = [] := by simp [dfsTo, kids]
theorem dfsTo_all (c : Int) (ts : List T4) (h m : Nat) (k : Col) : dfsTo c ts h m k ts.length = dfs c ts h (m + 1) k := by simp [dfsTo, dfs]
theorem dfsTo_succ (c : Int) (ts : List T4) (h m : Nat) (k : Col) (j : Nat) (hj : j < ts.length) :
    dfsTo c ts h m k (j + 1) = dfsTo c ts h m k j ++ if fits (decide (m + 1 = h)) k ts[j] = true then dfs c ts h m (kid c (decide (m + 1 = h)) k ts[j]) else [] := by
  unfold dfsTo
  rw [kids_succ _ _ _ _ _ hj, List.flatMap_append]
  congr 1
  by_cases h : fits (decide (m + 1 = h)) k ts[j] = true <;> simp [h]
theorem dfsTo_le (c : Int) (ts : List T4) (h m : Nat) (k : Col) : ∀ (j d : Nat), j + d = ts.length → (dfsTo c ts h m k j).length ≤ (dfs c ts h (m + 1) k).length
  | j, 0, hd => by rw [← dfsTo_all]; have : j = ts.length := by omega
                   subst this; exact Nat.le_refl _
  | j, d + 1, hd => by
    refine Nat.le_trans ?_ (dfsTo_le c ts h m k (j + 1) d (by omega))
    rw [dfsTo_succ _ _ _ _ _ _ (by omega), List.length_append]
    exact Nat.le_add_right _ _
theorem dfs_len (c : Int) (ts : List T4) (h : Nat) : ∀ (m : Nat) (k : Col), (dfs c ts h m k).length ≤ ts.length ^ m
  | 0, k => by simp [dfs]
  | m + 1, k => by
    have hk : (kids c ts (decide (m + 1 = h)) k).length ≤ ts.length := by
      unfold kids; rw [List.length_map]; exact List.length_filter_le ..
    have hf : ∀ l : List Col, (l.flatMap (dfs c ts h m)).length ≤ l.length * ts.length ^ m := by
      intro l
      induction l with
      | nil => simp
      | cons a l ih =>
        rw [List.flatMap_cons, List.length_append, List.length_cons, Nat.add_mul, Nat.one_mul]
        have := dfs_len c ts h m a
        omega
    show ((kids c ts (decide (m + 1 = h)) k).flatMap (dfs c ts h m)).length ≤ _
    refine Nat.le_trans (hf _) ?_
    rw [Nat.pow_succ, Nat.mul_comm (ts.length ^ m)]
    exact Nat.mul_le_mul_right _ hk
/-- how the program keeps a column: west word, east word, north colour -/
def ccells (xs : List Col) : List Value := xs.flatMap fun k => [.int .i64 k.w, .int .i64 k.e, .int .i64 k.n]
theorem ccells_append (xs ys : List Col) : ccells (xs ++ ys) = ccells xs ++ ccells ys := by simp [ccells]
theorem ccells_length (xs : List Col) : (ccells xs).length = xs.length * 3 := by
  induction xs with
  | nil => rfl
  | cons a l ih => simp only [ccells, List.flatMap_cons, List.length_append, List.length_cons, List.length_nil]; unfold ccells at ih; omega
theorem ccells_get (xs : List Col) (k j : Nat) (hk : k < xs.length) (hj : j < 3) : (ccells xs)[k * 3 + j]? = [Value.int .i64 xs[k].w, .int .i64 xs[k].e, .int .i64 xs[k].n][j]? := by
  induction xs generalizing k with
  | nil => simp at hk
  | cons t ts ih =>
    have e : ccells (t :: ts) = [.int .i64 t.w, .int .i64 t.e, .int .i64 t.n] ++ ccells ts := rfl
    rw [e]
    cases k with
    | zero => rw [List.getElem?_append_left (by simp; omega)]; simp
    | succ k =>
      rw [List.getElem?_append_right (by simp; omega)]
      have := ih k (by simpa using hk)
      rw [show (k + 1) * 3 + j - [Value.int .i64 t.w, .int .i64 t.e, .int .i64 t.n].length = k * 3 + j by simp; omega]
      simpa using this
theorem infoArr3 : (Tryz.prog.info? 104).map (fun i => (i.zero, i.size, i.bytes)) = some (some (.agg #[.int .i64 0, .int .i64 0, .int .i64 0]), 3, 24) := by kernel_rfl
/-- columns that the call made and owns -/
def OwnC (w : World) (B : Nat) (v : Value) (xs : List Col) : Prop := w.ownsRow B 104 3 v xs.length (ccells xs)
theorem OwnC.nil (w : World) (B : Nat) : OwnC w B (.slice none 0 0) [] := World.ownsRow_nil _ _ _ _
theorem app_col {o : Oper} {a : Act} {W : World} {K : Act → World → Prop} {Q : Exit → Act → World → Prop} (s x : Operand)
    (ho : o.op = .call { callee := .builtin .append, args := #[s, x], argTypes := #[101, 101] }) (B : Nat) (v : Value) (xs : List Col) (y : Col) (hs : a.eval s = v) (hown : OwnC W B v xs)
    (b : Nat) (hx : a.eval x = .slice (some ⟨b, 0, none⟩) 1 1) (hc : ∀ j u, [Value.int .i64 y.w, .int .i64 y.e, .int .i64 y.n][j]? = some u → W.cell? ⟨b, j, none⟩ = some u) (hl : xs.length ≤ 1000000000) (hB : B ≤ W.heap.size)
    (h : ∀ v' w', OwnC w' B v' (xs ++ [y]) → W.grownBy w' v.ownBlock → K (a.put o.dst v') w') : o.wp Tryz.prog a W K Q := by
  refine app_gen s x 101 104 (.agg #[.int .i64 0, .int .i64 0, .int .i64 0]) 3 24 ho Tryz.underlying101 infoArr3 rfl (by decide) B v xs.length (ccells xs) hs hown ⟨b, 0, none⟩ 1 1 [.int .i64 y.w, .int .i64 y.e, .int .i64 y.n] hx rfl ?_ ?_ ?_ ?_ hB ?_
  · intro j u hj
    rw [add_off, Nat.zero_add]
    exact hc j u hj
  · intro u hu; simp at hu; rcases hu with rfl | rfl | rfl <;> rfl
  · simp [maxLen]; omega
  · omega
  · intro v' w' h1 h2 _
    refine h v' w' ?_ h2
    unfold OwnC
    rw [ccells_append, List.length_append]
    exact h1
theorem wpl_app_col {ops : Array Oper} {rest : List Oper} {o : Oper} {a : Act} {W : World} {Q : Exit → Act → World → Prop} (hgd : o.guard = none) (s x : Operand)
    (ho : o.op = .call { callee := .builtin .append, args := #[s, x], argTypes := #[101, 101] }) (B : Nat) (v : Value) (xs : List Col) (y : Col) (hs : a.eval s = v) (hown : OwnC W B v xs)
    (b : Nat) (hx : a.eval x = .slice (some ⟨b, 0, none⟩) 1 1) (hc : ∀ j u, [Value.int .i64 y.w, .int .i64 y.e, .int .i64 y.n][j]? = some u → W.cell? ⟨b, j, none⟩ = some u) (hl : xs.length ≤ 1000000000) (hB : B ≤ W.heap.size)
    (h : ∀ v' w', OwnC w' B v' (xs ++ [y]) → W.grownBy w' v.ownBlock → wpList Tryz.prog ops Q rest (a.put o.dst v') w') : wpList Tryz.prog ops Q (o :: rest) a W :=
  wpList_plain hgd fun _ hK => app_col s x ho B v xs y hs hown b hx hc hl hB fun v' w' h1 h2 => hK _ _ (h v' w' h1 h2)
theorem grown_set0 (w : World) (g j : Nat) (v : Value) : w.grownBy (w.setCell ⟨g, j, none⟩ v) (some g) :=
  ⟨rfl, rfl, rfl, by simp [World.setCell], fun k _ hne => Below.heap_setCell w ⟨g, j, none⟩ v k (fun e => hne (by rw [e]))⟩
structure FrB (B g : Nat) (w w' : World) : Prop where
  os : w'.os = w.os
  tape : w'.tape = w.tape
  output : w'.output = w.output
  size : w.heap.size ≤ w'.heap.size
  block : ∀ k, k < B → k ≠ g → w'.heap[k]? = w.heap[k]?
theorem FrB.refl (B g : Nat) (w : World) : FrB B g w w := ⟨rfl, rfl, rfl, Nat.le_refl _, fun _ _ _ => rfl⟩
theorem FrB.trans {B g : Nat} {w w1 w2 : World} (h : FrB B g w w1) (k : FrB B g w1 w2) : FrB B g w w2 :=
  ⟨k.os.trans h.os, k.tape.trans h.tape, k.output.trans h.output, Nat.le_trans h.size k.size, fun j h1 h2 => (k.block j h1 h2).trans (h.block j h1 h2)⟩
theorem FrB.of_below {B g : Nat} {w w1 : World} (h : Below w.heap.size w w1) (hB : B ≤ w.heap.size) : FrB B g w w1 :=
  ⟨h.os, h.tape, h.output, h.size, fun k hk _ => h.block k (Nat.lt_of_lt_of_le hk hB)⟩
theorem FrB.alloc {B g : Nat} {w w1 : World} (h : FrB B g w w1) (hB : B ≤ w.heap.size) (o : Obj) : FrB B g w (w1.alloc o) :=
  h.trans (FrB.of_below (below_al (Below.refl _ _)) (Nat.le_trans hB h.size))
theorem FrB.drew {B g : Nat} {w w1 : World} (h : FrB B g w w1) : FrB B g w w1.drew := ⟨h.os, h.tape, h.output, h.size, h.block⟩
theorem FrB.drewN {B g : Nat} {w w1 : World} (h : FrB B g w w1) (n : Nat) : FrB B g w (w1.drewN n) := ⟨h.os, h.tape, h.output, h.size, h.block⟩
theorem FrB.set {B g : Nat} {w w1 : World} (h : FrB B g w w1) (j : Nat) (v : Value) : FrB B g w (w1.setCell ⟨g, j, none⟩ v) :=
  ⟨h.os, h.tape, h.output, by have := h.size; simp [World.setCell]; omega, fun k h1 h2 => (Below.heap_setCell w1 ⟨g, j, none⟩ v k h2).trans (h.block k h1 h2)⟩
theorem FrB.setFar {B g a : Nat} {w w1 : World} (h : FrB B g w w1) (ha : B ≤ a) (j : Nat) (v : Value) : FrB B g w (w1.setCell ⟨a, j, none⟩ v) :=
  ⟨h.os, h.tape, h.output, by have := h.size; simp [World.setCell]; omega, fun k h1 h2 => (Below.heap_setCell w1 ⟨a, j, none⟩ v k (by dsimp only; omega)).trans (h.block k h1 h2)⟩
theorem FrB.grown {B g : Nat} {w w1 w2 : World} {v : Value} (h : FrB B g w w1) (hB : B ≤ w.heap.size) (hg : w1.grownBy w2 v.ownBlock) (hv : ∀ k, v.ownBlock = some k → B ≤ k) : FrB B g w w2 :=
  ⟨hg.os.trans h.os, hg.tape.trans h.tape, hg.output.trans h.output, Nat.le_trans h.size hg.size, fun k h1 h2 => (hg.block k (Nat.lt_of_lt_of_le (Nat.lt_of_lt_of_le h1 hB) h.size) (fun e => by have := hv k e.symm; omega)).trans (h.block k h1 h2)⟩
theorem FrB.cell {B g b j : Nat} {w w' : World} {v : Value} (h : FrB B g w w') (hb : b < B) (hn : b ≠ g) (hc : w.cell? ⟨b, j, none⟩ = some v) : w'.cell? ⟨b, j, none⟩ = some v :=
  (World.cell?_of_block (a := ⟨b, j, none⟩) (h.block b hb hn)).trans hc
theorem FrB.tiles {B g : Nat} {w w' : World} {A : Option Addr} {ts : List T4} (h : FrB B g w w') (hT : TileCells w A ts) (hA : 0 < ts.length → ∀ b off, A = some ⟨b, off, none⟩ → b < B ∧ b ≠ g) : TileCells w' A ts := by
  intro k hk
  obtain ⟨b, off, e, hlt, h0, h1, h2, h3⟩ := hT k hk
  obtain ⟨i1, i2⟩ := hA (by omega) b off e
  exact ⟨b, off, e, Nat.lt_of_lt_of_le hlt h.size, h.cell i1 i2 h0, h.cell i1 i2 h1, h.cell i1 i2 h2, h.cell i1 i2 h3⟩
/-- block g holds a strip; its columns are an owned list -/
def StripSt (w : World) (B g : Nat) (c : Int) (A : Option Addr) (n cx : Nat) (h words : Int) (xs : List Col) : Prop :=
  ∃ v, Blk w g [.int .i64 c, .slice A n cx, .int .i64 h, .int .i64 words, v] 103 ∧ OwnC w B v xs
theorem StripSt.move {w w' : World} {B g : Nat} {c : Int} {A : Option Addr} {n cx : Nat} {h words : Int} {xs : List Col} (hs : StripSt w B g c A n cx h words xs) (hb : Below w.heap.size w w') : StripSt w' B g c A n cx h words xs := by
  obtain ⟨v, h1, h2⟩ := hs
  exact ⟨v, h1.under hb, World.ownsRow.kept (row := none) h2 ⟨hb.os, hb.tape, hb.output, hb.size, fun k hk _ => hb.block k hk⟩ (by cases h : v.ownBlock with | none => exact .inl rfl | some k => exact .inr (by simp))⟩
theorem OwnC.shape {w : World} {B : Nat} {v : Value} {xs : List Col} (h : OwnC w B v xs) : ∃ A cx, v = .slice A xs.length cx := by
  obtain ⟨h1, h2⟩ := h
  rcases h2 with ⟨rfl, h2⟩ | ⟨g, cap, cur, rfl, _⟩
  · exact ⟨none, 0, by rw [h2]⟩
  · exact ⟨_, _, rfl⟩
theorem OwnC.ge {w : World} {B : Nat} {v : Value} {xs : List Col} (h : OwnC w B v xs) : ∀ k, v.ownBlock = some k → B ≤ k := fun k hk => (World.ownsRow.lt h k hk).1
theorem OwnC.alloc {w : World} {B : Nat} {v : Value} {xs : List Col} (h : OwnC w B v xs) (o : Obj) : OwnC (w.alloc o) B v xs := World.ownsRow.alloc h o
theorem strip_put {W W' : World} {B g : Nat} {c : Int} {A : Option Addr} {n cx : Nat} {h words : Int} {xs ys : List Col} {v v' : Value} (hG : Blk W g [.int .i64 c, .slice A n cx, .int .i64 h, .int .i64 words, v] 103) (hg : g < B)
    (ho : OwnC W B v xs) (h1 : OwnC W' B v' ys) (h2 : W.grownBy W' v.ownBlock) : StripSt (W'.setCell ⟨g, 4, none⟩ v') B g c A n cx h words ys := by
  refine ⟨v', ?_, ?_⟩
  · have : Blk W' g [.int .i64 c, .slice A n cx, .int .i64 h, .int .i64 words, v] 103 := (h2.block g hG.lt (fun e => by have := ho.ge g e.symm; omega)).trans hG
    exact this.set 4 v'
  · exact World.ownsRow.kept (row := some g) h1 (grown_set0 W' g 4 v') (by cases e : v'.ownBlock with | none => exact .inl rfl | some k => exact .inr (fun e2 => by injection e2 with e2; have := h1.ge k e; omega))
theorem strip_blk {W W' : World} {B g : Nat} {cs : List Value} {T : TypeId} {v : Value} {xs : List Col} (hG : Blk W g cs T) (hg : g < B) (ho : OwnC W B v xs) (h2 : W.grownBy W' v.ownBlock) : Blk W' g cs T :=
  (h2.block g hG.lt (fun e => by have := ho.ge g e.symm; omega)).trans hG
theorem col_new (w : World) (T : TypeId) (k : Col) : ∀ j u, [Value.int .i64 k.w, .int .i64 k.e, .int .i64 k.n][j]? = some u → (w.alloc (.cells #[.int .i64 k.w, .int .i64 k.e, .int .i64 k.n] T)).cell? ⟨w.heap.size, j, none⟩ = some u := by
  intro j u hj
  exact cell_alloc_at w _ T j u (by simpa using hj)
structure StripEnv (w : World) (B g b2 b3 b6 b7 : Nat) (c : Int) (A : Option Addr) (n cx h : Nat) : Prop where
  lt : g < B ∧ b2 < B ∧ b3 < B ∧ b6 < B ∧ b7 < B
  ne : b2 ≠ g ∧ b3 ≠ g ∧ b6 ≠ g ∧ b7 ≠ g
  c6 : w.cell? ⟨b6, 0, none⟩ = some (.pointer (some ⟨g, 0, none⟩))
  c20 : w.cell? ⟨b2, 0, none⟩ = some (.int .i64 c)
  c21 : w.cell? ⟨b2, 1, none⟩ = some (.slice A n cx)
  c3 : w.cell? ⟨b3, 0, none⟩ = some (.int .i64 h)
  c7 : w.cell? ⟨b7, 0, none⟩ = some (.func (.func 119) #[] #[.pointer (some ⟨b6, 0, none⟩), .pointer (some ⟨b2, 0, none⟩), .pointer (some ⟨b3, 0, none⟩), .pointer (some ⟨b7, 0, none⟩)])
theorem StripEnv.move {w w' : World} {B g b2 b3 b6 b7 : Nat} {c : Int} {A : Option Addr} {n cx h : Nat} (e : StripEnv w B g b2 b3 b6 b7 c A n cx h) (f : FrB B g w w') : StripEnv w' B g b2 b3 b6 b7 c A n cx h :=
  ⟨e.lt, e.ne, f.cell e.lt.2.2.2.1 e.ne.2.2.1 e.c6, f.cell e.lt.2.1 e.ne.1 e.c20, f.cell e.lt.2.1 e.ne.1 e.c21, f.cell e.lt.2.2.1 e.ne.2.1 e.c3, f.cell e.lt.2.2.2.2 e.ne.2.2.2 e.c7⟩
set_option maxRecDepth 100000 in
set_option maxHeartbeats 1000000 in
theorem newStrip1_zero (B g b2 b3 b6 b7 : Nat) (c : Int) (A : Option Addr) (n cx h : Nat) (words : Int) (k : Col) (xs : List Col) (w : World)
    (hE : StripEnv w B g b2 b3 b6 b7 c A n cx h) (hB : B ≤ w.heap.size) (hS : StripSt w B g c A n cx h words xs) (hlen : xs.length + 1 ≤ 5000) :
    Calls Tryz.prog 119 #[.int .i64 k.n, .int .i64 k.s, .int .i64 k.w, .int .i64 k.e, .int .i64 0, .pointer (some ⟨b6, 0, none⟩), .pointer (some ⟨b2, 0, none⟩), .pointer (some ⟨b3, 0, none⟩), .pointer (some ⟨b7, 0, none⟩)] w
      fun e w' => e = .returned (.bool true) ∧ StripSt w' B g c A n cx h words (xs ++ [k]) ∧ FrB B g w w' := by
  obtain ⟨v, hG, hO⟩ := hS
  have c4 := hG.cell 4 (by simp)
  simp only [List.getElem_cons_zero, List.getElem_cons_succ] at c4
  have HG := Lib.hid hG
  have HO := Lib.hid hO
  have HLT := Lib.hid hE.lt
  have HE := Lib.hid hE
  have E6 := fun w1 (h : FrB B g w w1) => (hE.move h).c6
  clear hG hO hE
  have HB := Lib.hid hB
  have hglt := HG.out.lt
  have e4 : ∀ o : Obj, (w.drew.alloc o).cell? ⟨g, 4, none⟩ = some v := fun o => ((Below.refl _ w.drew).alloc (Nat.le_refl _) o).cell (p := ⟨g, 4, none⟩) HG.out.lt |>.trans c4
  go_enter Tryz.func119, Tryz.ntmps119
  go_wp2_with fail
  refine wp_region_plan (.det 0 (.det 1 (.det 2 (.det 3 (.det 5 (.det 6 (.det 7 (.two 4 (.one 8 (.one 9 (.one 10 (.one 11 (.one 12 (.one 13 (.done))))))) 8 (.two 4 (.one 9 (.one 10 (.one 11 (.one 12 (.one 13 (.done)))))) 9 (.one 4 (.one 10 (.one 11 (.one 12 (.one 13 (.done))))))))))))))) (fun w' => FrB B g w w') (fun a a' w' => ∃ x0 x1 x2 x3 x4 x5 x6 x7 x8 x9 x10 x11 x12, a' = (((((((((((((a.put (some 19) x0).put (some 20) x1).put (some 21) x2).put (some 22) x3).put (some 23) x4).put (some 24) x5).put (some 25) x6).put (some 26) x7).put (some 27) x8).put (some 28) x9).put (some 29) x10).put (some 30) x11).put (some 31) x12) ∧ StripSt w' B g c A n cx h words (xs ++ [k])) (by kernel_rfl) (by kernel_rfl) (fun _ _ d _ _ h => by cases d <;> exact h) ((FrB.refl B g w).drew) ?_ ?_
  rotate_left
  · rintro a' wa hba ⟨x0, x1, x2, x3, x4, x5, x6, x7, x8, x9, x10, x11, x12, rfl, hP⟩
    obtain ⟨v', hG', hO'⟩ := hP
    obtain ⟨A', cx', rfl⟩ := hO'.shape
    have E6' := E6 _ hba
    have g4 := hG'.cell 4 (by simp)
    simp only [List.getElem_cons_zero, List.getElem_cons_succ, List.length_append, List.length_cons, List.length_nil] at g4
    have HZ := Lib.hid (And.intro hba (And.intro hG' hO'))
    clear hG' hO' hba E6 e4 c4
    go_simp
    go_wp2
    go_ret
    exact ⟨by simp; omega, ⟨_, HZ.out.2.1, HZ.out.2.2⟩, HZ.out.1⟩
  repeat (first
    | (refine plan_skip rfl rfl (fun K' hK' => ?_); go_simp; refine hK' _ ?_; clear hK' K')
    | (refine plan_do (v := ?_) rfl rfl (fun w1 hb => ?_) (fun K' hK' => ?_); rotate_left
       · go_simp
         rfl
       go_simp; refine hK' _ ?_; clear hK' K'))
  refine plan_two ?_ ?_
  · refine step_op rfl rfl (fun K' hK' => ?_)
    go_simp
    refine hK' _ _ ((FrB.refl B g w).drew) ?_; clear hK' K'
    refine plan_one (step_op rfl rfl (fun K' hK' => ?_))
    go_simp
    refine hK' _ _ ((FrB.refl B g w).drew) ?_; clear hK' K'
    refine plan_one (step_op rfl rfl (fun K' hK' => ?_))
    go_simp
    refine hK' _ _ (FrB.alloc (FrB.refl B g w).drew HB.out _) ?_; clear hK' K'
    refine plan_one (step_op rfl rfl (fun K' hK' => ?_))
    refine app_col (.tmp 23) (.tmp 28) rfl B v xs k rfl (OwnC.alloc HO.out _) w.heap.size rfl (col_new w.drew _ k) (by omega) (le_al HB.out) (fun v' w' (h1 : OwnC w' B v' (xs ++ [k])) h2 => ?_)
    have hf : FrB B g w w' := (FrB.alloc (FrB.refl B g w).drew HB.out _).grown HB.out h2 HO.out.ge
    refine hK' _ _ hf ?_
    clear hK' K'
    obtain ⟨A1, cx1, rfl⟩ := h1.shape
    have hG' := strip_blk (HG.out.drew.alloc _) HLT.out.1 (OwnC.alloc HO.out _) h2
    have z4' := hG'.frozen 4
    have c4' := hG'.cell 4 (by simp)
    simp only [List.getElem_cons_zero, List.getElem_cons_succ] at c4'
    have HP := Lib.hid (strip_put (HG.out.drew.alloc _) HLT.out.1 (OwnC.alloc HO.out _) h1 h2)
    have HF := Lib.hid hf
    clear h1 h2 hG' hf
    refine plan_one (step_op rfl rfl (fun K' hK' => ?_))
    go_simp
    refine hK' _ _ (HF.out) ?_; clear hK' K'
    refine plan_one (step_op rfl rfl (fun K' hK' => ?_))
    go_simp
    refine hK' _ _ (HF.out) ?_; clear hK' K'
    refine plan_one (step_op rfl rfl (fun K' hK' => ?_))
    go_simp
    refine hK' _ _ (HF.out.set _ _) ?_; clear hK' K'
    refine plan_done ⟨?_, ?_, ?_, ?_, ?_, ?_, ?_, ?_, ?_, ?_, ?_, ?_, ?_, ?_, ?_⟩
    rotate_left 13
    · go_simp; (first | rfl | (and_intros <;> rfl))
    · exact by have h9 := HP.out; rw [show (xs ++ [k]).length = xs.length + 1 by simp] at h9; exact h9
  · refine step_op rfl rfl (fun K' hK' => ?_)
    go_simp
    refine hK' _ _ ((FrB.refl B g w).drew) ?_; clear hK' K'
    refine plan_two ?_ ?_
    · refine step_op rfl rfl (fun K' hK' => ?_)
      go_simp
      refine hK' _ _ ((FrB.refl B g w).drew) ?_; clear hK' K'
      refine plan_one (step_op rfl rfl (fun K' hK' => ?_))
      go_simp
      refine hK' _ _ (FrB.alloc (FrB.refl B g w).drew HB.out _) ?_; clear hK' K'
      refine plan_one (step_op rfl rfl (fun K' hK' => ?_))
      refine app_col (.tmp 23) (.tmp 28) rfl B v xs k rfl (OwnC.alloc HO.out _) w.heap.size rfl (col_new w.drew _ k) (by omega) (le_al HB.out) (fun v' w' (h1 : OwnC w' B v' (xs ++ [k])) h2 => ?_)
      have hf : FrB B g w w' := (FrB.alloc (FrB.refl B g w).drew HB.out _).grown HB.out h2 HO.out.ge
      refine hK' _ _ hf ?_
      clear hK' K'
      obtain ⟨A1, cx1, rfl⟩ := h1.shape
      have hG' := strip_blk (HG.out.drew.alloc _) HLT.out.1 (OwnC.alloc HO.out _) h2
      have z4' := hG'.frozen 4
      have c4' := hG'.cell 4 (by simp)
      simp only [List.getElem_cons_zero, List.getElem_cons_succ] at c4'
      have HP := Lib.hid (strip_put (HG.out.drew.alloc _) HLT.out.1 (OwnC.alloc HO.out _) h1 h2)
      have HF := Lib.hid hf
      clear h1 h2 hG' hf
      refine plan_one (step_op rfl rfl (fun K' hK' => ?_))
      go_simp
      refine hK' _ _ (HF.out) ?_; clear hK' K'
      refine plan_one (step_op rfl rfl (fun K' hK' => ?_))
      go_simp
      refine hK' _ _ (HF.out) ?_; clear hK' K'
      refine plan_one (step_op rfl rfl (fun K' hK' => ?_))
      go_simp
      refine hK' _ _ (HF.out.set _ _) ?_; clear hK' K'
      refine plan_done ⟨?_, ?_, ?_, ?_, ?_, ?_, ?_, ?_, ?_, ?_, ?_, ?_, ?_, ?_, ?_⟩
      rotate_left 13
      · go_simp; (first | rfl | (and_intros <;> rfl))
      · exact by have h9 := HP.out; rw [show (xs ++ [k]).length = xs.length + 1 by simp] at h9; exact h9
    · refine step_op rfl rfl (fun K' hK' => ?_)
      go_simp
      refine hK' _ _ (FrB.alloc (FrB.refl B g w).drew HB.out _) ?_; clear hK' K'
      refine plan_one (step_op rfl rfl (fun K' hK' => ?_))
      go_simp
      refine hK' _ _ (FrB.alloc (FrB.refl B g w).drew HB.out _) ?_; clear hK' K'
      refine plan_one (step_op rfl rfl (fun K' hK' => ?_))
      refine app_col (.tmp 23) (.tmp 28) rfl B v xs k rfl (OwnC.alloc HO.out _) w.heap.size rfl (col_new w.drew _ k) (by omega) (le_al HB.out) (fun v' w' (h1 : OwnC w' B v' (xs ++ [k])) h2 => ?_)
      have hf : FrB B g w w' := (FrB.alloc (FrB.refl B g w).drew HB.out _).grown HB.out h2 HO.out.ge
      refine hK' _ _ hf ?_
      clear hK' K'
      obtain ⟨A1, cx1, rfl⟩ := h1.shape
      have hG' := strip_blk (HG.out.drew.alloc _) HLT.out.1 (OwnC.alloc HO.out _) h2
      have z4' := hG'.frozen 4
      have c4' := hG'.cell 4 (by simp)
      simp only [List.getElem_cons_zero, List.getElem_cons_succ] at c4'
      have HP := Lib.hid (strip_put (HG.out.drew.alloc _) HLT.out.1 (OwnC.alloc HO.out _) h1 h2)
      have HF := Lib.hid hf
      clear h1 h2 hG' hf
      refine plan_one (step_op rfl rfl (fun K' hK' => ?_))
      go_simp
      refine hK' _ _ (HF.out) ?_; clear hK' K'
      refine plan_one (step_op rfl rfl (fun K' hK' => ?_))
      go_simp
      refine hK' _ _ (HF.out) ?_; clear hK' K'
      refine plan_one (step_op rfl rfl (fun K' hK' => ?_))
      go_simp
      refine hK' _ _ (HF.out.set _ _) ?_; clear hK' K'
      refine plan_done ⟨?_, ?_, ?_, ?_, ?_, ?_, ?_, ?_, ?_, ?_, ?_, ?_, ?_, ?_, ?_⟩
      rotate_left 13
      · go_simp; (first | rfl | (and_intros <;> rfl))
      · exact by have h9 := HP.out; rw [show (xs ++ [k]).length = xs.length + 1 by simp] at h9; exact h9
theorem mulc {x y : Int} (h1 : 0 ≤ x) (h2 : x ≤ 1000000000000000) (h3 : 0 ≤ y) (h4 : y ≤ 6) : IntKind.i64.wrap (x * y) = x * y ∧ 0 ≤ x * y ∧ x * y ≤ 6 * x := by
  have b1 : 0 ≤ x * y := Int.mul_nonneg h1 h3
  have b2 : x * y ≤ x * 6 := Int.mul_le_mul (Int.le_refl _) h4 h3 h1
  exact ⟨IntWalk.i64_in _ (by omega), b1, by omega⟩
/-- room for the code of a word that m letters more come to -/
def roomC : Nat → Int
  | 0 => 1000000000000000
  | m + 1 => (roomC m - 6) / 6
theorem roomC_le : ∀ m, roomC m ≤ 1000000000000000
  | 0 => Int.le_refl _
  | m + 1 => by have := roomC_le m; show (roomC m - 6) / 6 ≤ _; omega
theorem roomC_step {m : Nat} {x a : Int} (h : x ≤ roomC (m + 1)) (ha : a ≤ 5) : 6 * x + a ≤ roomC m := by
  have : x ≤ (roomC m - 6) / 6 := h
  omega
/-- what a call of the columns' closure brings about -/
def StripGo (B g b2 b3 b6 b7 : Nat) (c : Int) (ts : List T4) (A : Option Addr) (cx h : Nat) (words : Int) (m : Nat) (k : Col) (xs : List Col) (w : World) : Prop :=
    Calls Tryz.prog 119 #[.int .i64 k.n, .int .i64 k.s, .int .i64 k.w, .int .i64 k.e, .int .i64 m, .pointer (some ⟨b6, 0, none⟩), .pointer (some ⟨b2, 0, none⟩), .pointer (some ⟨b3, 0, none⟩), .pointer (some ⟨b7, 0, none⟩)] w
      fun e w' => e = .returned (.bool true) ∧ StripSt w' B g c A ts.length cx h words (xs ++ dfs c ts h m k) ∧ FrB B g w w'
def StripGoes (B g b2 b3 b6 b7 : Nat) (c : Int) (ts : List T4) (A : Option Addr) (cx h : Nat) (words : Int) (m : Nat) : Prop :=
    ∀ (k : Col) (xs : List Col) (w : World), StripEnv w B g b2 b3 b6 b7 c A ts.length cx h → B ≤ w.heap.size → TileCells w A ts → StripSt w B g c A ts.length cx h words xs → xs.length + (dfs c ts h m k).length ≤ 5000 →
      (0 ≤ k.w ∧ k.w ≤ roomC m) → (0 ≤ k.e ∧ k.e ≤ roomC m) → StripGo B g b2 b3 b6 b7 c ts A cx h words m k xs w
set_option maxRecDepth 100000 in
set_option maxHeartbeats 1000000 in
theorem newStrip1_step (B g b2 b3 b6 b7 : Nat) (c : Int) (ts : List T4) (A : Option Addr) (cx h : Nat) (words : Int) (hs : Small ts) (h16 : ts.length ≤ 16) (hc : 0 ≤ c ∧ c ≤ 6) (hh : h ≤ 4) (hA : 0 < ts.length → ∀ b off, A = some ⟨b, off, none⟩ → b < B ∧ b ≠ g)
    (m M : Nat) (hM : M = m + 1) (hm : M ≤ h) (IH : Hid (StripGoes B g b2 b3 b6 b7 c ts A cx h words m)) (k : Col) (xs : List Col) (w : World) (hE : StripEnv w B g b2 b3 b6 b7 c A ts.length cx h) (hB : B ≤ w.heap.size) (hT : TileCells w A ts) (hS : StripSt w B g c A ts.length cx h words xs)
    (hlen : xs.length + (dfs c ts h (m + 1) k).length ≤ 5000) (hw : 0 ≤ k.w ∧ k.w ≤ roomC (m + 1)) (he : 0 ≤ k.e ∧ k.e ≤ roomC (m + 1)) :
    Calls Tryz.prog 119 #[.int .i64 k.n, .int .i64 k.s, .int .i64 k.w, .int .i64 k.e, .int .i64 M, .pointer (some ⟨b6, 0, none⟩), .pointer (some ⟨b2, 0, none⟩), .pointer (some ⟨b3, 0, none⟩), .pointer (some ⟨b7, 0, none⟩)] w
      fun e w' => e = .returned (.bool true) ∧ StripSt w' B g c A ts.length cx h words (xs ++ dfs c ts h (m + 1) k) ∧ FrB B g w w' := by
  have HM := Lib.hid hM
  have hM1 : (M : Int) - 1 = (m : Int) := by omega
  have hMb : 1 ≤ M ∧ M ≤ 4 := by omega
  have HE := Lib.hid hE
  have HB := Lib.hid hB
  have HT := Lib.hid hT
  have HS := Lib.hid hS
  have HL := Lib.hid hlen
  have HW := Lib.hid hw
  have HH := Lib.hid he
  have c21 := hE.c21
  have hmz : ((M : Int) == 0) = false := by simp; omega
  clear hE hB hT hS hlen hw he hM
  go_enter Tryz.func119, Tryz.ntmps119
  go_wp2_with fail
  go_loopw [0, 41] (fun top i wr => ∃ (j : Nat) (z : Int), j ≤ ts.length ∧ i = .int .i64 j ∧ top = .int .i64 z ∧ Hid (m + 1 ≠ h → z = k.n) ∧ Hid (StripSt wr B g c A ts.length cx h words (xs ++ dfsTo c ts h m k j)) ∧ Hid (FrB B g w wr)) (fun _ i _ => ts.length - (intOf i).toNat)
  case atStart => exact ⟨0, k.n, by omega, rfl, rfl, Lib.hid (fun _ => rfl), Lib.hid (by rw [dfsTo_zero, List.append_nil]; exact HS.out), Lib.hid (FrB.refl _ _ _)⟩
  case round =>
    obtain ⟨j, z, hj, rfl, rfl, Hz, HSj, HF⟩ := hrel
    have HEj := Lib.hid (HE.out.move HF.out)
    by_cases h1 : j < ts.length
    · have HTj := Lib.hid (HF.out.tiles HT.out hA)
      have hBr : B ≤ wr.heap.size := Nat.le_trans HB.out HF.out.size
      obtain ⟨b, off, rfl, hlt, t0, t1, t2, t3⟩ := HTj.out j h1
      have hd := Lib.hid (dfsTo_succ c ts h m k j h1)
      have hle := Lib.hid (dfsTo_le c ts h m k (j + 1) (ts.length - (j + 1)) (by omega))
      obtain ⟨⟨a1, a2⟩, ⟨a3, a4⟩, ⟨a5, a6⟩, a7, a8⟩ := hs j h1
      generalize ts[j] = t at *
      have c20 := HEj.out.c20
      have c3 := HEj.out.c3
      have c7 := HEj.out.c7
      obtain ⟨v2, v3, v7⟩ : b2 < wr.heap.size ∧ b3 < wr.heap.size ∧ b7 < wr.heap.size := by have := HE.out.lt; omega
      obtain ⟨x1, x2, x3⟩ := mulc HW.out.1 (Int.le_trans HW.out.2 (roomC_le _)) hc.1 hc.2
      obtain ⟨y1, y2, y3⟩ := mulc HH.out.1 (Int.le_trans HH.out.2 (roomC_le _)) hc.1 hc.2
      have r0 := roomC_le m
      have rw1 := roomC_step (a := t.a) HW.out.2 a2
      have re1 := roomC_step (a := t.c) HH.out.2 a6
      obtain ⟨pw, hpw⟩ : ∃ p, k.w * c = p := ⟨_, rfl⟩
      obtain ⟨pe, hpe⟩ : ∃ p, k.e * c = p := ⟨_, rfl⟩
      by_cases hf : m + 1 = h
      · have q1 : decide ((M : Int) < (h : Int)) = false := by have := HM.out; simp; omega
        have q2 : ((M : Int) == (h : Int)) = true := by have := HM.out; simp; omega
        have hd2 : dfsTo c ts h m k (j + 1) = dfsTo c ts h m k j ++ dfs c ts h m ⟨t.b, pw + t.a, pe + t.c, t.d⟩ := by
          rw [hd.out]; simp [fits, kid, hf, hpw, hpe]
        replace hf := Lib.hid hf
        have hl2 : (xs ++ dfsTo c ts h m k j).length + (dfs c ts h m ⟨t.b, pw + t.a, pe + t.c, t.d⟩).length ≤ 5000 := by
          have e1 := hle.out
          have e2 := HL.out
          rw [hd2] at e1
          simp only [List.length_append] at e1 ⊢
          omega
        have HI := Lib.hid (IH.out ⟨t.b, pw + t.a, pe + t.c, t.d⟩ (xs ++ dfsTo c ts h m k j) (wr.alloc (.cells #[.int .i64 t.a, .int .i64 t.b, .int .i64 t.c, .int .i64 t.d] 30)) (HEj.out.move (FrB.of_below (below_al (Below.refl _ _)) hBr)) (le_al hBr) (HTj.out.below (below_al (Below.refl _ _))) (HSj.out.move (below_al (Below.refl _ _))) hl2
          ⟨by dsimp only; omega, by dsimp only; omega⟩ ⟨by dsimp only; omega, by dsimp only; omega⟩)
        replace hd2 := Lib.hid hd2
        clear hl2
        go_wp2_with fail
        refine (show StripGo B g b2 b3 b6 b7 c ts _ cx h words m _ _ _ from HI.out).mono ?_
        rintro e w2 ⟨rfl, hS2, hF2⟩
        have HF2 := Lib.hid (HF.out.trans ((FrB.of_below (below_al (Below.refl _ _)) hBr).trans hF2))
        have HS2 := Lib.hid hS2
        clear hS2 hF2
        go_wp2_with fail
        go_roundw
        case rel => exact ⟨j + 1, t.b, by omega, by go_num, rfl, Lib.hid (fun e => absurd hf.out e), Lib.hid (by rw [hd2.out, ← List.append_assoc]; exact HS2.out), HF2⟩
        case measure => simp [intOf]; omega
      · have q0 : M < h := by have := HM.out; omega
        have q1 : decide ((M : Int) < (h : Int)) = true := by simp; omega
        have q2 : ((M : Int) == (h : Int)) = false := by have := HM.out; simp; omega
        obtain rfl := Hz.out hf
        by_cases hb : t.b = k.s
        · have q3 : (t.b != k.s) = false := by simp [hb]
          have hd2 : dfsTo c ts h m k (j + 1) = dfsTo c ts h m k j ++ dfs c ts h m ⟨k.n, pw + t.a, pe + t.c, t.d⟩ := by
            rw [hd.out]; simp [fits, kid, hf, hpw, hpe, hb]
          replace hf := Lib.hid hf
          replace hb := Lib.hid hb
          have hl2 : (xs ++ dfsTo c ts h m k j).length + (dfs c ts h m ⟨k.n, pw + t.a, pe + t.c, t.d⟩).length ≤ 5000 := by
            have e1 := hle.out
            have e2 := HL.out
            rw [hd2] at e1
            simp only [List.length_append] at e1 ⊢
            omega
          have HI := Lib.hid (IH.out ⟨k.n, pw + t.a, pe + t.c, t.d⟩ (xs ++ dfsTo c ts h m k j) (wr.alloc (.cells #[.int .i64 t.a, .int .i64 t.b, .int .i64 t.c, .int .i64 t.d] 30)) (HEj.out.move (FrB.of_below (below_al (Below.refl _ _)) hBr)) (le_al hBr) (HTj.out.below (below_al (Below.refl _ _))) (HSj.out.move (below_al (Below.refl _ _))) hl2
            ⟨by dsimp only; omega, by dsimp only; omega⟩ ⟨by dsimp only; omega, by dsimp only; omega⟩)
          replace hd2 := Lib.hid hd2
          clear hl2
          go_wp2_with fail
          refine (show StripGo B g b2 b3 b6 b7 c ts _ cx h words m _ _ _ from HI.out).mono ?_
          rintro e w2 ⟨rfl, hS2, hF2⟩
          have HF2 := Lib.hid (HF.out.trans ((FrB.of_below (below_al (Below.refl _ _)) hBr).trans hF2))
          have HS2 := Lib.hid hS2
          clear hS2 hF2
          go_wp2_with fail
          go_roundw
          case rel => exact ⟨j + 1, k.n, by omega, by go_num, rfl, Lib.hid (fun _ => rfl), Lib.hid (by rw [hd2.out, ← List.append_assoc]; exact HS2.out), HF2⟩
          case measure => simp [intOf]; omega
        · have q3 : (t.b != k.s) = true := by simp [hb]
          have hd2 : Hid (dfsTo c ts h m k (j + 1) = dfsTo c ts h m k j) := by
            show dfsTo c ts h m k (j + 1) = dfsTo c ts h m k j
            rw [hd.out]; simp [fits, hf, hb]
          replace hf := Lib.hid hf
          replace hb := Lib.hid hb
          go_wp2_with fail
          go_roundw
          case rel => exact ⟨j + 1, k.n, by omega, by go_num, rfl, Lib.hid (fun _ => rfl), Lib.hid (by rw [hd2.out]; exact HSj.out.move (below_al (Below.refl _ _))), Lib.hid (HF.out.trans (FrB.of_below (below_al (Below.refl _ _)) hBr))⟩
          case measure => simp [intOf]; omega
    · obtain rfl : j = ts.length := by omega
      go_wp2
      go_ret
      exact ⟨rfl, by have h9 := HSj.out; rw [dfsTo_all] at h9; exact h9, HF.out⟩
theorem newStrip1_c (B g b2 b3 b6 b7 : Nat) (c : Int) (ts : List T4) (A : Option Addr) (cx h : Nat) (words : Int) (hs : Small ts) (h16 : ts.length ≤ 16) (hc : 0 ≤ c ∧ c ≤ 6) (hh : h ≤ 4) (hA : 0 < ts.length → ∀ b off, A = some ⟨b, off, none⟩ → b < B ∧ b ≠ g) :
    ∀ m, m ≤ h → StripGoes B g b2 b3 b6 b7 c ts A cx h words m
  | 0, _ => fun k xs w hE hB _ hS hlen _ _ => newStrip1_zero B g b2 b3 b6 b7 c A ts.length cx h words k xs w hE hB hS (by simpa [dfs] using hlen)
  | m + 1, hm => newStrip1_step B g b2 b3 b6 b7 c ts A cx h words hs h16 hc hh hA m (m + 1) rfl hm (Lib.hid (newStrip1_c B g b2 b3 b6 b7 c ts A cx h words hs h16 hc hh hA m (by omega)))

end Go.Proofs.YtnoehaphbpkpjaaGreat
