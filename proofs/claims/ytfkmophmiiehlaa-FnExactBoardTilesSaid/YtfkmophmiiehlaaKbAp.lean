/- Contracts and lemmas for the statements of this seat, written for this claim; each theorem states its own conditions. -/
import Derived.Maps.AppendAt
import Derived.Test.YtfkmophmiiehlaaKbBk
import Derived.Test.YtfkmophmiiehlaaKbB
set_option linter.unusedVariables false
set_option linter.unusedSimpArgs false
namespace Go.Proofs.Ytfkmophmiiehlaa
open Go.RowKit
/-- one 'append' onto an owned slice, of any element type, with what is known of the block that it leaves -/
theorem app_gen {o : Oper} {a : Act} {W : World} {K : Act → World → Prop} {Q : Exit → Act → World → Prop} (s x : Operand) (T e : TypeId) (z : Value) (size bytes : Nat)
    (ho : o.op = .call { callee := .builtin .append, args := #[s, x], argTypes := #[T, T] }) (ht : Try.prog.underlying T = some (.slice e)) (hinfo : (Try.prog.info? e).map (fun i => (i.zero, i.size, i.bytes)) = some (some z, size, bytes))
    (hzs : z.cells.size = size) (hsz : 0 < size) (B : Nat) (v : Value) (n : Nat) (xs : List Value) (hs : a.eval s = v) (hown : W.ownsRow B e size v n xs)
    (ad : Addr) (m cx : Nat) (news : List Value) (hx : a.eval x = .slice (some ad) m cx) (hl : news.length = m * size) (hnews : ∀ j u, news[j]? = some u → W.cell? (ad.add j) = some u) (h1 : ∀ u ∈ news, u.oneCell' = true)
    (h63 : n + m ≤ maxLen) (hbytes : (n + m) * bytes ≤ 140737488355328) (hB : B ≤ W.heap.size)
    (h : ∀ v' w', w'.ownsRow B e size v' (n + m) (xs ++ news) → W.grownBy w' v.ownBlock → (v'.ownBlock = v.ownBlock ∨ v'.ownBlock = some W.heap.size) → K (a.put o.dst v') w') : o.wp Try.prog a W K Q := by
  obtain ⟨i, hi, hzz⟩ := Option.map_eq_some_iff.1 hinfo
  simp only [Prod.mk.injEq] at hzz
  obtain ⟨hz, hsize, hby⟩ := hzz
  obtain ⟨v', w', hr, h2, h3, _, h5⟩ := run_append_own_at (P := Try.prog) W B T o.type e i z size bytes ht hi hz hsize hby hzs hsz v n xs hown ad m cx news hl hnews h1 h63 hbytes hB
  unfold Oper.wp execOp
  simp only [ho, resolve, invoke, builtin, Sem.run_bind, Sem.run_pure, Result.andThen_ok, List.map_toArray, List.map_cons, List.map_nil, hs, hx, hr]
  exact h v' w' h2 h3 h5
theorem app_int2 {o : Oper} {a : Act} {W : World} {K : Act → World → Prop} {Q : Exit → Act → World → Prop} (s x : Operand)
    (ho : o.op = .call { callee := .builtin .append, args := #[s, x], argTypes := #[63, 63] }) (B : Nat) (v : Value) (xs : List Int) (y : Int) (hs : a.eval s = v) (hown : OwnI W B v xs)
    (b off : Nat) (hx : a.eval x = .slice (some ⟨b, off, none⟩) 1 1) (hc : W.cell? ⟨b, off, none⟩ = some (.int .i64 y)) (hl : xs.length ≤ 1000000000000) (hB : B ≤ W.heap.size)
    (h : ∀ v' w', OwnI w' B v' (xs ++ [y]) → W.grownBy w' v.ownBlock → (v'.ownBlock = v.ownBlock ∨ v'.ownBlock = some W.heap.size) → K (a.put o.dst v') w') : o.wp Try.prog a W K Q := by
  refine app_gen s x 63 2 (.int .i64 0) 1 8 ho Try.underlying63 infoInt rfl (by decide) B v xs.length (ints xs) hs hown ⟨b, off, none⟩ 1 1 [.int .i64 y] hx rfl ?_ ?_ ?_ ?_ hB ?_
  · intro j u hj
    cases j with
    | zero => simp at hj; subst hj; simpa [Addr.add] using hc
    | succ j => simp at hj
  · intro u hu; simp at hu; subst hu; rfl
  · simp [maxLen]; omega
  · omega
  · intro v' w' h1 h2 h3
    refine h v' w' ?_ h2 h3
    unfold OwnI
    have e : ints (xs ++ [y]) = ints xs ++ [.int .i64 y] := by simp [ints]
    rw [e, List.length_append]
    exact h1
def Apart (v u : Value) : Prop := v.ownBlock = none ∨ v.ownBlock ≠ u.ownBlock
theorem Apart.symm {v u : Value} (h : Apart v u) : Apart u v := by
  cases e2 : u.ownBlock with
  | none => exact .inl e2
  | some k => rcases h with h | h
              · exact .inr (by rw [h, e2]; simp)
              · exact .inr (by rw [e2] at *; exact fun e => h e.symm)
theorem OwnI.blt {w : World} {B : Nat} {v : Value} {xs : List Int} (h : OwnI w B v xs) : ∀ k, v.ownBlock = some k → k < w.heap.size := fun k hk => (World.ownsRow.lt h k hk).2
theorem Apart.app {v v' u : Value} {n : Nat} (h : Apart v u) (hu : ∀ k, u.ownBlock = some k → k < n) (hat : v'.ownBlock = v.ownBlock ∨ v'.ownBlock = some n) : Apart v' u := by
  rcases hat with e | e
  · unfold Apart; rw [e]; exact h
  · right; rw [e]; intro h2; have := hu n h2.symm; omega
theorem Apart.blk {a b n m c d : Nat} (h : a ≠ b) : Apart (Value.slice (some ⟨a, 0, none⟩) n c) (Value.slice (some ⟨b, 0, none⟩) m d) := .inr (ne_blk h)
theorem cell_al (w : World) (cs : Array Value) (T j b : Nat) (v : Value) (hb : w.heap.size = b) (h : cs[j]? = some v) : (w.alloc (.cells cs T)).cell? ⟨b, j, none⟩ = some v := by subst hb; exact cell_alloc_at w cs T j v h
end Go.Proofs.Ytfkmophmiiehlaa
namespace Go.Proofs.Ytfkmophmiiehlaa
open Go.RowKit
/-- a goal at which the walk stands still -/
def Hold (p : Prop) : Prop := p
theorem Hold.of {p : Prop} (h : Hold p) : p := h
theorem Hold.to {p : Prop} (h : p) : Hold p := h

end Go.Proofs.Ytfkmophmiiehlaa
