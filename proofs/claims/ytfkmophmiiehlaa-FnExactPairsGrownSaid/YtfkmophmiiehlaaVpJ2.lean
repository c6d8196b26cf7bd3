/- Contracts and lemmas for the statements of this seat, written for this claim; each theorem states its own conditions. -/
import Derived.BigQuiet
import Derived.Test.YtfkmophmiiehlaaVpI2
import Derived.Test.YtfkmophmiiehlaaVpOw
import Derived.Test.YtfkmophmiiehlaaVpL1
import Derived.Test.YtfkmophmiiehlaaVpLw
import Derived.Test.YtfkmophmiiehlaaVpLi
import Derived.Test.YtfkmophmiiehlaaVpMk
set_option linter.unusedVariables false
set_option linter.unusedSimpArgs false
namespace Go.Proofs.Ytfkmophmiiehlaa
open Go.RowKit
/-- tiles are appended to an owned list of tiles -/
theorem app_tiles {o : Oper} {a : Act} {W : World} {K : Act → World → Prop} {Q : Exit → Act → World → Prop} (s x : Operand)
    (ho : o.op = .call { callee := .builtin .append, args := #[s, x], argTypes := #[29, 29] }) (B : Nat) (v : Value) (ts us : List T4) (hs : a.eval s = v) (hown : OwnT W B v ts)
    (ad : Addr) (c : Nat) (hx : a.eval x = .slice (some ad) us.length c) (hc : ∀ j u, (tcells us)[j]? = some u → W.cell? (ad.add j) = some u) (hl : ts.length + us.length ≤ 1000000000) (hB : B ≤ W.heap.size)
    (h : ∀ v' w', OwnT w' B v' (ts ++ us) → W.grownBy w' v.ownBlock → (v'.ownBlock = v.ownBlock ∨ v'.ownBlock = some W.heap.size) → K (a.put o.dst v') w') : o.wp Try.prog a W K Q := by
  refine app_gen s x 29 57 (.agg #[.int .i64 0, .int .i64 0, .int .i64 0, .int .i64 0]) 4 32 ho Try.underlying29 infoTile2 rfl (by decide) B v ts.length (tcells ts) hs hown ad us.length c (tcells us) hx (tcells_length us) hc ?_ ?_ ?_ hB ?_
  · intro u hu
    unfold tcells at hu
    obtain ⟨t, _, ht⟩ := List.mem_flatMap.1 hu
    simp only [ints, T4.l, List.map_cons, List.map_nil, List.mem_cons, List.not_mem_nil, or_false] at ht
    rcases ht with rfl | rfl | rfl | rfl <;> rfl
  · simp [maxLen]; omega
  · omega
  · intro v' w' h1 h2 h3
    refine h v' w' ?_ h2 h3
    unfold OwnT
    rw [tcells_append, List.length_append]
    exact h1
theorem wpl_app_tiles {ops : Array Oper} {rest : List Oper} {o : Oper} {a : Act} {W : World} {Q : Exit → Act → World → Prop} (hgd : o.guard = none) (s x : Operand)
    (ho : o.op = .call { callee := .builtin .append, args := #[s, x], argTypes := #[29, 29] }) (B : Nat) (v : Value) (ts us : List T4) (hs : a.eval s = v) (hown : OwnT W B v ts)
    (ad : Addr) (c : Nat) (hx : a.eval x = .slice (some ad) us.length c) (hc : ∀ j u, (tcells us)[j]? = some u → W.cell? (ad.add j) = some u) (hl : ts.length + us.length ≤ 1000000000) (hB : B ≤ W.heap.size)
    (h : ∀ v' w', OwnT w' B v' (ts ++ us) → W.grownBy w' v.ownBlock → (v'.ownBlock = v.ownBlock ∨ v'.ownBlock = some W.heap.size) → wpList Try.prog ops Q rest (a.put o.dst v') w') : wpList Try.prog ops Q (o :: rest) a W :=
  wpList_plain hgd fun _ hK => app_tiles s x ho B v ts us hs hown ad c hx hc hl hB fun v' w' h1 h2 h3 => hK _ _ (h v' w' h1 h2 h3)
/-- the cells of an owned list from a place on -/
theorem OwnT.cellsFrom {w : World} {B g n cap : Nat} {L : List T4} (h : OwnT w B (.slice (some ⟨g, 0, none⟩) n cap) L) (k : Nat) (j : Nat) (u : Value) (hj : (tcells (L.drop k))[j]? = some u) : w.cell? ((⟨g, k * 4, none⟩ : Addr).add j) = some u := by
  obtain ⟨A, cx, e, hT⟩ := h.tiles
  injection e with a1 a2 a3
  subst a1 a2 a3
  have hk : k < L.length := by
    rcases Nat.lt_or_ge k L.length with h | h
    · exact h
    · rw [List.drop_eq_nil_of_le h] at hj; simp [tcells] at hj
  have hL : 0 < L.length := by omega
  obtain ⟨g', cap', cur, e, hB, hb, h1, h2, h3, h4⟩ := h.parts hL
  injection e with a1 a2 a3
  injection a1 with a1
  injection a1 with a1
  subst a1 a3
  have hd : tcells (L.drop k) = (tcells L).drop (k * 4) := by
    have := congrArg tcells (List.take_append_drop k L)
    rw [tcells_append, ← tcells_take] at this
    exact List.append_cancel_left (this.trans (List.take_append_drop (k * 4) (tcells L)).symm)
  rw [hd, List.getElem?_drop, ← h4, List.getElem?_take] at hj
  split at hj
  · rw [show (⟨g, k * 4, none⟩ : Addr).add j = ⟨g, k * 4 + j, none⟩ by cases j <;> rfl]
    simp only [World.cell?, hb]
    simpa using hj
  · cases hj
theorem OwnT.upto {w : World} {B g n cap : Nat} {L : List T4} (h : OwnT w B (.slice (some ⟨g, 0, none⟩) n cap) L) (k : Nat) (j : Nat) (u : Value) (hj : (tcells (L.take k))[j]? = some u) : w.cell? ((⟨g, 0, none⟩ : Addr).add j) = some u := by
  have := h.cellsFrom 0 j u
  simp only [Nat.zero_mul, List.drop_zero] at this
  apply this
  rw [← tcells_take, List.getElem?_take] at hj
  split at hj
  · exact hj
  · cases hj
theorem OwnT.one (w : World) (x : T4) {B : Nat} (hB : B ≤ w.heap.size) : OwnT (w.alloc (.cells #[.int .i64 x.a, .int .i64 x.b, .int .i64 x.c, .int .i64 x.d] 57)) B (.slice (some ⟨w.heap.size, 0, none⟩) 1 1) [x] :=
  World.ownsRow_lit (base := B) (e := 57) (size := 4) w #[.int .i64 x.a, .int .i64 x.b, .int .i64 x.c, .int .i64 x.d] 1 hB (by decide) rfl
theorem OwnT.drew {w : World} {B : Nat} {v : Value} {ts : List T4} (h : OwnT w B v ts) : OwnT { w with drawn := w.drawn + 1 } B v ts := h
theorem OwnT.all {w : World} {B g n cap : Nat} {L : List T4} (h : OwnT w B (.slice (some ⟨g, 0, none⟩) n cap) L) (j : Nat) (u : Value) (hj : (tcells L)[j]? = some u) : w.cell? ((⟨g, 0, none⟩ : Addr).add j) = some u := by
  refine h.upto L.length j u ?_
  rw [List.take_length]; exact hj
theorem OwnT.rowlt {w : World} {B : Nat} {v : Value} {ts : List T4} (h : OwnT w B v ts) : ∀ k, v.ownBlock = some k → B ≤ k := fun k hk => (World.ownsRow.lt h k hk).1

end Go.Proofs.Ytfkmophmiiehlaa
namespace Go.Proofs.Ytfkmophmiiehlaa
open Go.RowKit
/-- an owned slice of tiles, by its cells -/
def OwnTc (w : World) (B : Nat) (v : Value) (n : Nat) (cs : List Value) : Prop := w.ownsRow B 57 4 v n cs
theorem OwnT.toC {w : World} {B : Nat} {v : Value} {ts : List T4} (h : OwnT w B v ts) : OwnTc w B v ts.length (tcells ts) := h
theorem OwnTc.shape {w : World} {B : Nat} {v : Value} {n : Nat} {cs : List Value} (h : OwnTc w B v n cs) : ∃ A cx, v = .slice A n cx ∧ (0 < n → ∃ g, A = some ⟨g, 0, none⟩ ∧ B ≤ g ∧ g < w.heap.size) := by
  obtain ⟨h1, ⟨h3, h2⟩ | ⟨g, cap, cur, rfl, hB, hb, h3, h4, h5, h6⟩⟩ := h
  · exact ⟨none, 0, by rw [h3, h2], fun k => by omega⟩
  · exact ⟨some ⟨g, 0, none⟩, cap, rfl, fun _ => ⟨g, rfl, hB, (Array.getElem?_eq_some_iff.1 hb).1⟩⟩
theorem OwnTc.len {w : World} {B : Nat} {v : Value} {n : Nat} {cs : List Value} (h : OwnTc w B v n cs) : cs.length = n * 4 := h.1
theorem OwnTc.below {w w1 : World} {B : Nat} {v : Value} {n : Nat} {cs : List Value} (h : OwnTc w B v n cs) (hb : Below w.heap.size w w1) : OwnTc w1 B v n cs :=
  World.ownsRow.kept (row := none) h ⟨hb.os, hb.tape, hb.output, hb.size, fun k hk _ => hb.block k hk⟩ (by cases h : v.ownBlock with | none => exact .inl rfl | some k => exact .inr (by simp))
theorem OwnTc.grown {w w1 : World} {B : Nat} {v : Value} {n : Nat} {cs : List Value} {row : Option Nat} (h : OwnTc w B v n cs) (hg : w.grownBy w1 row) (hne : v.ownBlock = none ∨ v.ownBlock ≠ row) : OwnTc w1 B v n cs := World.ownsRow.kept h hg hne
theorem marks_step4 (k j : Nat) (cs : List Value) (hj : j < cs.length) : (ints (marks k j) ++ cs.drop j).set j (.int .i64 ((k + j : Nat) : Int)) = ints (marks k (j + 1)) ++ cs.drop (j + 1) := by
  rw [List.set_append_right _ _ (by rw [ints_length, marks_len]; exact Nat.le_refl _), ints_length, marks_len, Nat.sub_self, List.drop_eq_getElem_cons hj, List.set_cons_zero]
  simp [ints, marks, List.range_succ]
end Go.Proofs.Ytfkmophmiiehlaa
namespace Go.Proofs.Ytfkmophmiiehlaa
open Go.RowKit
theorem Blk.grownB {w w' : World} {b : Nat} {cs : List Value} {T : TypeId} {row : Option Nat} (h : Blk w b cs T) (hg : w.grownBy w' row) (hne : row ≠ some b) : Blk w' b cs T := (hg.block b h.lt (fun e => hne e.symm)).trans h
theorem OwnT.grown {w w1 : World} {B : Nat} {v : Value} {ts : List T4} {row : Option Nat} (h : OwnT w B v ts) (hg : w.grownBy w1 row) (hne : v.ownBlock = none ∨ v.ownBlock ≠ row) : OwnT w1 B v ts := World.ownsRow.kept h hg hne
theorem OwnT.blt {w : World} {B : Nat} {v : Value} {ts : List T4} (h : OwnT w B v ts) : ∀ k, v.ownBlock = some k → B ≤ k ∧ k < w.heap.size := fun k hk => World.ownsRow.lt h k hk
theorem OwnT.tilesAt {w : World} {B n cx : Nat} {A : Option Addr} {ts : List T4} (h : OwnT w B (.slice A n cx) ts) : TileCells w A ts := by
  obtain ⟨A', cx', e, hT⟩ := h.tiles
  injection e with a1 a2 a3
  subst a1
  exact hT
end Go.Proofs.Ytfkmophmiiehlaa
namespace Go.Proofs.Ytfkmophmiiehlaa
open Go.RowKit
theorem OwnI.other {w : World} {B : Nat} {v : Value} {xs : List Int} (h : OwnI w B v xs) (b k : Nat) (hb : b < B) (u : Value) : OwnI (w.setCell ⟨b, k, none⟩ u) B v xs := by
  refine World.ownsRow.kept (row := some b) h ⟨rfl, rfl, rfl, (KeepsWalks.setCell w _ u).size, fun j _ hj => Below.heap_setCell _ _ _ j (fun e => hj (by rw [e]))⟩ ?_
  obtain ⟨h1, ⟨rfl, h2⟩ | ⟨g, cap, cur, rfl, e2, e3⟩⟩ := h
  · exact .inl rfl
  · refine .inr (fun e => ?_)
    have e' : g = b := Option.some.inj e
    omega
end Go.Proofs.Ytfkmophmiiehlaa
