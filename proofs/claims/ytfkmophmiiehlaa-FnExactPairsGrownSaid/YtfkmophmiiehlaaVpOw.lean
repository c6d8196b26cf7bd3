/- Contracts and lemmas for the statements of this seat, written for this claim; each theorem states its own conditions. -/
import Derived.Maps.AppendAt
import Derived.Test.YtfkmophmiiehlaaVpBk
import Derived.Test.YtfkmophmiiehlaaVpB
set_option linter.unusedVariables false
set_option linter.unusedSimpArgs false
namespace Go.Proofs.Ytfkmophmiiehlaa
open Go.RowKit
theorem infoInt : (Try.prog.info? 2).map (fun i => (i.zero, i.size, i.bytes)) = some (some (.int .i64 0), 1, 8) := by kernel_rfl
/-- a slice that the call made and owns: numbers -/
def OwnI (w : World) (B : Nat) (v : Value) (xs : List Int) : Prop := w.ownsRow B 2 1 v xs.length (ints xs)
theorem OwnI.nil (w : World) (B : Nat) : OwnI w B (.slice none 0 0) [] := World.ownsRow_nil _ _ _ _
theorem OwnI.alloc {w : World} {B : Nat} {v : Value} {xs : List Int} (h : OwnI w B v xs) (o : Obj) : OwnI (w.alloc o) B v xs := World.ownsRow.alloc h o
theorem OwnI.drew {w : World} {B : Nat} {v : Value} {xs : List Int} (h : OwnI w B v xs) : OwnI w.drew B v xs := h
theorem OwnI.below {w w1 : World} {B : Nat} {v : Value} {xs : List Int} (h : OwnI w B v xs) (hb : Below w.heap.size w w1) : OwnI w1 B v xs :=
  World.ownsRow.kept (row := none) h ⟨hb.os, hb.tape, hb.output, hb.size, fun k hk _ => hb.block k hk⟩ (by cases h : v.ownBlock with | none => exact .inl rfl | some k => exact .inr (by simp))
theorem OwnI.weaken {w : World} {B B' : Nat} {v : Value} {xs : List Int} (h : OwnI w B v xs) (hB : B' ≤ B) : OwnI w B' v xs := by
  obtain ⟨h1, h2⟩ := h
  refine ⟨h1, ?_⟩
  rcases h2 with h2 | ⟨g, cap, cur, e1, e2, e3⟩
  · exact .inl h2
  · exact .inr ⟨g, cap, cur, e1, Nat.le_trans hB e2, e3⟩
theorem OwnI.shape {w : World} {B : Nat} {v : Value} {xs : List Int} (h : OwnI w B v xs) : ∃ A cx, v = .slice A xs.length cx ∧ Cells w A (ints xs) ∧ xs.length ≤ 9223372036854775807 := by
  obtain ⟨h1, h2⟩ := h
  rcases h2 with ⟨rfl, h2⟩ | ⟨g, cap, cur, rfl, e2, e3, e4, e5, e6, e7⟩
  · refine ⟨none, 0, by rw [h2], ?_, by omega⟩
    intro j hj; rw [ints_length] at hj; omega
  · refine ⟨some ⟨g, 0, none⟩, cap, rfl, ?_, by simp [maxLen] at e5; omega⟩
    intro j hj
    refine ⟨g, 0, rfl, ?_⟩
    rw [Nat.zero_add]
    unfold World.cell?
    simp only [e3]
    have : (ints xs)[j]? = some (ints xs)[j] := List.getElem?_eq_getElem hj
    rw [← this, ← e7, List.getElem?_take]
    rw [ints_length] at hj
    simp [hj]
theorem OwnI.made (w : World) (B : Nat) (cs : Array Value) (xs : List Int) (hc : cs.toList = ints xs) (hB : B ≤ w.heap.size) (hl : xs.length ≤ 9223372036854775807) :
    OwnI (w.alloc (.cells cs 2)) B (.slice (some ⟨w.heap.size, 0, none⟩) xs.length xs.length) xs := by
  have hs : cs.size = xs.length * 1 := by rw [← Array.length_toList, hc, ints_length, Nat.mul_one]
  have := World.ownsRow_lit (base := B) (e := 2) (size := 1) w cs xs.length hB (by simpa [maxLen] using hl) hs
  rw [hc] at this
  exact this
theorem below_grown {w W w1 : World} {v : Value} {B : Nat} {xs : List Int} (h : Below w.heap.size w W) (hg : W.grownBy w1 v.ownBlock) (ho : OwnI W B v xs) (hB : w.heap.size ≤ B) : Below w.heap.size w w1 :=
  h.grown hg h.size (fun k hk => Nat.le_trans hB (World.ownsRow.lt ho k hk).1)
theorem OwnI.newly {w : World} {B g n : Nat} {cs : Array Value} {xs : List Int} (hg : w.heap.size = g) (hn : xs.length = n) (hc : cs.toList = ints xs) (hB : B ≤ w.heap.size) (hl : xs.length ≤ 9223372036854775807) :
    OwnI (w.alloc (.cells cs 2)) B (.slice (some ⟨g, 0, none⟩) n n) xs := by subst hg hn; exact OwnI.made w B cs xs hc hB hl
theorem le_al {w : World} {B : Nat} {o : Obj} (h : B ≤ w.heap.size) : B ≤ (w.alloc o).heap.size := by simp; omega
theorem ne_blk {a b n m c d : Nat} (h : a ≠ b) : (Value.slice (some ⟨a, 0, none⟩) n c).ownBlock ≠ (Value.slice (some ⟨b, 0, none⟩) m d).ownBlock := fun e => h (Option.some.inj e)
theorem own_ne {w : World} {B s n : Nat} {e : TypeId} {v : Value} {xs cs : List Value} {x : Nat} {T : TypeId} (h : w.ownsRow B e s v n xs) (hx : Blk w x cs T) (hT : e ≠ T) : v.ownBlock ≠ some x := by
  obtain ⟨_, h2⟩ := h
  rcases h2 with ⟨rfl, _⟩ | ⟨g, cap, cur, rfl, _, e3, _⟩
  · intro h; cases h
  · intro h
    have h : some g = some x := h
    injection h with h
    subst h
    have := e3.symm.trans hx
    injection this with this
    injection this with _ this
    exact hT this
theorem grownBy_store (w : World) (x j : Nat) (y : Value) : w.grownBy (w.setCell ⟨x, j, none⟩ y) (some x) :=
  ⟨rfl, rfl, rfl, by simp, fun k _ hn => Below.heap_setCell w _ _ k (fun e => hn (by have e : k = x := e; rw [e]))⟩
theorem Blk.kept1 {w w' : World} {x : Nat} {cs : List Value} {T : TypeId} {o : Option Nat} (h : Blk w x cs T) (hg : w.grownBy w' o) (ho : o ≠ some x) : Blk w' x cs T :=
  (hg.block x h.lt (fun e => ho e.symm)).trans h

end Go.Proofs.Ytfkmophmiiehlaa
namespace Go.Proofs.Ytfkmophmiiehlaa
open Go.RowKit
/-- one 'append' onto an owned slice, of any element type, with what is known of the block that it leaves -/
theorem app_gen {o : Oper} {a : Act} {W : World} {K : Act → World → Prop} {Q : Exit → Act → World → Prop} (s x : Operand) (T e : TypeId) (z : Value) (size bytes : Nat)
    (ho : o.op = .call { callee := .builtin .append, args := #[s, x], argTypes := #[T, T] }) (ht : Try.prog.underlying T = some (.slice e)) (hinfo : (Try.prog.info? e).map (fun i => (i.zero, i.size, i.bytes)) = some (some z, size, bytes))
    (hzs : z.cells.size = size) (hsz : 0 < size) (B : Nat) (v : Value) (n : Nat) (xs : List Value) (hs : a.eval s = v) (hown : W.ownsRow B e size v n xs)
    (ad : Addr) (m cx : Nat) (news : List Value) (hx : a.eval x = .slice (some ad) m cx) (hl : news.length = m * size) (hnews : ∀ j u, news[j]? = some u → W.cell? (ad.add j) = some u) (h1 : ∀ u ∈ news, u.oneCell' = true)
    (h63 : n + m ≤ maxLen) (hbytes : (n + m) * bytes ≤ 140737488355328) (hB : B ≤ W.heap.size)
    (h : ∀ v' w', w'.ownsRow B e size v' (n + m) (xs ++ news) → W.grownBy w' v.ownBlock → (v'.ownBlock = v.ownBlock ∨ v'.ownBlock = some W.heap.size) → K (a.put o.dst v') w') : o.wp Try.prog a W K Q := by
  obtain ⟨i, hi, hzz⟩ := Option.map_eq_some_iff.1 hinfo
  simp only [Prod.mk.injEq] at hzz
  obtain ⟨hz, hsize, hby⟩ := hzz
  obtain ⟨v', w', hr, h2, h3, _, h5⟩ := run_append_own_at (P := Try.prog) W B T o.type e i z size bytes ht hi hz hsize hby hzs hsz v n xs hown ad m cx news hl hnews h1 h63 hbytes hB
  unfold Oper.wp execOp
  simp only [ho, resolve, invoke, builtin, Sem.run_bind, Sem.run_pure, Result.andThen_ok, List.map_toArray, List.map_cons, List.map_nil, hs, hx, hr]
  exact h v' w' h2 h3 h5
theorem app_int2 {o : Oper} {a : Act} {W : World} {K : Act → World → Prop} {Q : Exit → Act → World → Prop} (s x : Operand)
    (ho : o.op = .call { callee := .builtin .append, args := #[s, x], argTypes := #[63, 63] }) (B : Nat) (v : Value) (xs : List Int) (y : Int) (hs : a.eval s = v) (hown : OwnI W B v xs)
    (b off : Nat) (hx : a.eval x = .slice (some ⟨b, off, none⟩) 1 1) (hc : W.cell? ⟨b, off, none⟩ = some (.int .i64 y)) (hl : xs.length ≤ 1000000000000) (hB : B ≤ W.heap.size)
    (h : ∀ v' w', OwnI w' B v' (xs ++ [y]) → W.grownBy w' v.ownBlock → (v'.ownBlock = v.ownBlock ∨ v'.ownBlock = some W.heap.size) → K (a.put o.dst v') w') : o.wp Try.prog a W K Q := by
  refine app_gen s x 63 2 (.int .i64 0) 1 8 ho Try.underlying63 infoInt rfl (by decide) B v xs.length (ints xs) hs hown ⟨b, off, none⟩ 1 1 [.int .i64 y] hx rfl ?_ ?_ ?_ ?_ hB ?_
  · intro j u hj
    cases j with
    | zero => simp at hj; subst hj; simpa [Addr.add] using hc
    | succ j => simp at hj
  · intro u hu; simp at hu; subst hu; rfl
  · simp [maxLen]; omega
  · omega
  · intro v' w' h1 h2 h3
    refine h v' w' ?_ h2 h3
    unfold OwnI
    have e : ints (xs ++ [y]) = ints xs ++ [.int .i64 y] := by simp [ints]
    rw [e, List.length_append]
    exact h1
def Apart (v u : Value) : Prop := v.ownBlock = none ∨ v.ownBlock ≠ u.ownBlock
theorem Apart.symm {v u : Value} (h : Apart v u) : Apart u v := by
  cases e2 : u.ownBlock with
  | none => exact .inl e2
  | some k => rcases h with h | h
              · exact .inr (by rw [h, e2]; simp)
              · exact .inr (by rw [e2] at *; exact fun e => h e.symm)
theorem OwnI.blt {w : World} {B : Nat} {v : Value} {xs : List Int} (h : OwnI w B v xs) : ∀ k, v.ownBlock = some k → k < w.heap.size := fun k hk => (World.ownsRow.lt h k hk).2
theorem Apart.app {v v' u : Value} {n : Nat} (h : Apart v u) (hu : ∀ k, u.ownBlock = some k → k < n) (hat : v'.ownBlock = v.ownBlock ∨ v'.ownBlock = some n) : Apart v' u := by
  rcases hat with e | e
  · unfold Apart; rw [e]; exact h
  · right; rw [e]; intro h2; have := hu n h2.symm; omega
theorem Apart.blk {a b n m c d : Nat} (h : a ≠ b) : Apart (Value.slice (some ⟨a, 0, none⟩) n c) (Value.slice (some ⟨b, 0, none⟩) m d) := .inr (ne_blk h)
theorem cell_al (w : World) (cs : Array Value) (T j b : Nat) (v : Value) (hb : w.heap.size = b) (h : cs[j]? = some v) : (w.alloc (.cells cs T)).cell? ⟨b, j, none⟩ = some v := by subst hb; exact cell_alloc_at w cs T j v h
theorem wpl_app_int {ops : Array Oper} {rest : List Oper} {o : Oper} {a : Act} {W : World} {Q : Exit → Act → World → Prop} (hgd : o.guard = none) (s x : Operand)
    (ho : o.op = .call { callee := .builtin .append, args := #[s, x], argTypes := #[63, 63] }) (B : Nat) (v : Value) (xs : List Int) (y : Int) (hs : a.eval s = v) (hown : OwnI W B v xs)
    (b off : Nat) (hx : a.eval x = .slice (some ⟨b, off, none⟩) 1 1) (hc : W.cell? ⟨b, off, none⟩ = some (.int .i64 y)) (hl : xs.length ≤ 1000000000000) (hB : B ≤ W.heap.size)
    (h : ∀ v' w', OwnI w' B v' (xs ++ [y]) → W.grownBy w' v.ownBlock → (v'.ownBlock = v.ownBlock ∨ v'.ownBlock = some W.heap.size) → wpList Try.prog ops Q rest (a.put o.dst v') w') : wpList Try.prog ops Q (o :: rest) a W :=
  wpList_plain hgd fun _ hK => app_int2 s x ho B v xs y hs hown b off hx hc hl hB fun v' w' h1 h2 h3 => hK _ _ (h v' w' h1 h2 h3)

end Go.Proofs.Ytfkmophmiiehlaa
namespace Go.Proofs.Ytfkmophmiiehlaa
open Go.RowKit
/-- a goal at which the walk stands still -/
def Hold (p : Prop) : Prop := p
theorem Hold.of {p : Prop} (h : Hold p) : p := h
theorem Hold.to {p : Prop} (h : p) : Hold p := h

end Go.Proofs.Ytfkmophmiiehlaa
