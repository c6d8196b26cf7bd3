/- Contracts and lemmas for the statements of this seat, written for this claim; each theorem states its own conditions. -/
import Derived.Test.YtkgnejhflnekaaaGreatNgI1
import Derived.Test.YtkgnejhflnekaaaGreatNgAp
set_option linter.unusedVariables false
set_option linter.unusedSimpArgs false
namespace Go.Proofs.YtkgnejhflnekaaaGreat
open Go.RowKit
theorem asc_unique : ∀ (D E : List T4), D.Pairwise (fun x y => ltT x y = true) → E.Pairwise (fun x y => ltT x y = true) → (∀ x, x ∈ D ↔ x ∈ E) → D = E
  | [], [], _, _, _ => rfl
  | [], e :: E, _, _, h => absurd ((h e).2 (by simp)) (by simp)
  | d :: D, [], _, _, h => absurd ((h d).1 (by simp)) (by simp)
  | d :: D, e :: E, hD, hE, h => by
    rw [List.pairwise_cons] at hD hE
    have hde : d = e := by
      rcases List.mem_cons.1 ((h d).1 (by simp)) with h1 | h1
      · exact h1
      · rcases List.mem_cons.1 ((h e).2 (by simp)) with h2 | h2
        · exact h2.symm
        · have a := hE.1 d h1
          have b := hD.1 e h2
          have := ltT_swo.trans _ _ _ a b
          rw [ltT_swo.irrefl] at this
          cases this
    subst hde
    rw [asc_unique D E hD.2 hE.2 (fun x => ?_)]
    constructor
    · intro hx
      rcases List.mem_cons.1 ((h x).1 (by simp [hx])) with h1 | h1
      · subst h1; have := hD.1 x hx; rw [ltT_swo.irrefl] at this; cases this
      · exact h1
    · intro hx
      rcases List.mem_cons.1 ((h x).2 (by simp [hx])) with h1 | h1
      · subst h1; have := hE.1 x hx; rw [ltT_swo.irrefl] at this; cases this
      · exact h1
theorem setT_eq {ts L : List T4} (hL : L.Pairwise (fun x y => ltT x y = true)) (h : ∀ x, x ∈ L ↔ x ∈ ts) : setT ts = L :=
  asc_unique _ _ (setT_asc ts) hL (fun x => (setT_mem ts x).trans (h x).symm)
theorem setT_skip {ts : List T4} {t : T4} (h : t ∈ setT ts) : setT (ts ++ [t]) = setT ts :=
  setT_eq (setT_asc ts) (fun x => by
    rw [setT_mem, List.mem_append, List.mem_singleton]
    constructor
    · exact .inl
    · rintro (h1 | h1)
      · exact h1
      · subst h1; exact (setT_mem ts x).1 h)
theorem setT_ins {ts : List T4} {t : T4} (at_ : Nat) (ha : at_ ≤ (setT ts).length) (h1 : ∀ j (h : j < (setT ts).length), at_ ≤ j → ltT t (setT ts)[j] = true)
    (h2 : at_ = 0 ∨ ∃ h : at_ - 1 < (setT ts).length, ltT t (setT ts)[at_ - 1] = false ∧ (setT ts)[at_ - 1] ≠ t) : setT (ts ++ [t]) = (setT ts).take at_ ++ t :: (setT ts).drop at_ := by
  have hasc := setT_asc ts
  have hmem := setT_mem ts
  generalize setT ts = L at *
  have hlow : ∀ x ∈ L.take at_, ltT x t = true := by
    intro x hx
    obtain ⟨j, hj, rfl⟩ := List.getElem_of_mem hx
    rw [List.length_take] at hj
    rw [List.getElem_take]
    rcases h2 with h2 | ⟨h2, h3, h4⟩
    · omega
    · have hb := ltT_of_ne h3 h4.symm
      by_cases e : j = at_ - 1
      · subst e; exact hb
      · exact ltT_swo.trans _ _ _ (List.pairwise_iff_getElem.1 hasc j (at_ - 1) (by omega) h2 (by omega)) hb
  have hhigh : ∀ x ∈ L.drop at_, ltT t x = true := by
    intro x hx
    obtain ⟨j, hj, rfl⟩ := List.getElem_of_mem hx
    rw [List.getElem_drop]
    exact h1 _ (by rw [List.length_drop] at hj; omega) (by omega)
  refine setT_eq ?_ (fun x => ?_)
  · rw [List.pairwise_append]
    refine ⟨hasc.sublist (List.take_sublist _ _), List.pairwise_cons.2 ⟨hhigh, hasc.sublist (List.drop_sublist _ _)⟩, fun x hx y hy => ?_⟩
    rcases List.mem_cons.1 hy with rfl | hy
    · exact hlow x hx
    · exact ltT_swo.trans _ _ _ (hlow x hx) (hhigh y hy)
  · have e : x ∈ L ↔ x ∈ L.take at_ ∨ x ∈ L.drop at_ := by rw [← List.mem_append, List.take_append_drop]
    rw [List.mem_append, List.mem_cons, List.mem_append, List.mem_singleton, ← hmem, e]
    constructor
    · rintro (h | h | h)
      · exact .inl (.inl h)
      · exact .inr h
      · exact .inl (.inr h)
    · rintro ((h | h) | h)
      · exact .inl h
      · exact .inr (.inr h)
      · exact .inr (.inl h)
theorem setT_take_len (ts : List T4) : (setT ts).length ≤ ts.length := len_le_of_mem _ _ (setT_nodup ts) (fun x h => (setT_mem ts x).1 h)
theorem setT_len_nodup {ts : List T4} (h : ts.Nodup) : (setT ts).length = ts.length := len_eq_of_mem _ _ (setT_nodup ts) h (setT_mem ts)
/-- tiles are appended to an owned list of tiles -/
theorem app_tiles {o : Oper} {a : Act} {W : World} {K : Act → World → Prop} {Q : Exit → Act → World → Prop} (s x : Operand)
    (ho : o.op = .call { callee := .builtin .append, args := #[s, x], argTypes := #[24, 24] }) (B : Nat) (v : Value) (ts us : List T4) (hs : a.eval s = v) (hown : OwnT W B v ts)
    (ad : Addr) (c : Nat) (hx : a.eval x = .slice (some ad) us.length c) (hc : ∀ j u, (tcells us)[j]? = some u → W.cell? (ad.add j) = some u) (hl : ts.length + us.length ≤ 1000000000) (hB : B ≤ W.heap.size)
    (h : ∀ v' w', OwnT w' B v' (ts ++ us) → W.grownBy w' v.ownBlock → (v'.ownBlock = v.ownBlock ∨ v'.ownBlock = some W.heap.size) → K (a.put o.dst v') w') : o.wp Tryz.prog a W K Q := by
  refine app_gen s x 24 127 (.agg #[.int .i64 0, .int .i64 0, .int .i64 0, .int .i64 0]) 4 32 ho Tryz.underlying24 infoTile2 rfl (by decide) B v ts.length (tcells ts) hs hown ad us.length c (tcells us) hx (tcells_length us) hc ?_ ?_ ?_ hB ?_
  · intro u hu
    unfold tcells at hu
    obtain ⟨t, _, ht⟩ := List.mem_flatMap.1 hu
    simp only [ints, T4.l, List.map_cons, List.map_nil, List.mem_cons, List.not_mem_nil, or_false] at ht
    rcases ht with rfl | rfl | rfl | rfl <;> rfl
  · simp [maxLen]; omega
  · omega
  · intro v' w' h1 h2 h3
    refine h v' w' ?_ h2 h3
    unfold OwnT
    rw [tcells_append, List.length_append]
    exact h1
theorem wpl_app_tiles {ops : Array Oper} {rest : List Oper} {o : Oper} {a : Act} {W : World} {Q : Exit → Act → World → Prop} (hgd : o.guard = none) (s x : Operand)
    (ho : o.op = .call { callee := .builtin .append, args := #[s, x], argTypes := #[24, 24] }) (B : Nat) (v : Value) (ts us : List T4) (hs : a.eval s = v) (hown : OwnT W B v ts)
    (ad : Addr) (c : Nat) (hx : a.eval x = .slice (some ad) us.length c) (hc : ∀ j u, (tcells us)[j]? = some u → W.cell? (ad.add j) = some u) (hl : ts.length + us.length ≤ 1000000000) (hB : B ≤ W.heap.size)
    (h : ∀ v' w', OwnT w' B v' (ts ++ us) → W.grownBy w' v.ownBlock → (v'.ownBlock = v.ownBlock ∨ v'.ownBlock = some W.heap.size) → wpList Tryz.prog ops Q rest (a.put o.dst v') w') : wpList Tryz.prog ops Q (o :: rest) a W :=
  wpList_plain hgd fun _ hK => app_tiles s x ho B v ts us hs hown ad c hx hc hl hB fun v' w' h1 h2 h3 => hK _ _ (h v' w' h1 h2 h3)
/-- the cells of an owned list from a place on -/
theorem OwnT.cellsFrom {w : World} {B g n cap : Nat} {L : List T4} (h : OwnT w B (.slice (some ⟨g, 0, none⟩) n cap) L) (k : Nat) (j : Nat) (u : Value) (hj : (tcells (L.drop k))[j]? = some u) : w.cell? ((⟨g, k * 4, none⟩ : Addr).add j) = some u := by
  obtain ⟨A, cx, e, hT⟩ := h.tiles
  injection e with a1 a2 a3
  subst a1 a2 a3
  have hk : k < L.length := by
    rcases Nat.lt_or_ge k L.length with h | h
    · exact h
    · rw [List.drop_eq_nil_of_le h] at hj; simp [tcells] at hj
  have hL : 0 < L.length := by omega
  obtain ⟨g', cap', cur, e, hB, hb, h1, h2, h3, h4⟩ := h.parts hL
  injection e with a1 a2 a3
  injection a1 with a1
  injection a1 with a1
  subst a1 a3
  have hd : tcells (L.drop k) = (tcells L).drop (k * 4) := by
    have := congrArg tcells (List.take_append_drop k L)
    rw [tcells_append, ← tcells_take] at this
    exact List.append_cancel_left (this.trans (List.take_append_drop (k * 4) (tcells L)).symm)
  rw [hd, List.getElem?_drop, ← h4, List.getElem?_take] at hj
  split at hj
  · rw [show (⟨g, k * 4, none⟩ : Addr).add j = ⟨g, k * 4 + j, none⟩ by cases j <;> rfl]
    simp only [World.cell?, hb]
    simpa using hj
  · cases hj
theorem OwnT.upto {w : World} {B g n cap : Nat} {L : List T4} (h : OwnT w B (.slice (some ⟨g, 0, none⟩) n cap) L) (k : Nat) (j : Nat) (u : Value) (hj : (tcells (L.take k))[j]? = some u) : w.cell? ((⟨g, 0, none⟩ : Addr).add j) = some u := by
  have := h.cellsFrom 0 j u
  simp only [Nat.zero_mul, List.drop_zero] at this
  apply this
  rw [← tcells_take, List.getElem?_take] at hj
  split at hj
  · exact hj
  · cases hj
theorem OwnT.one (w : World) (x : T4) {B : Nat} (hB : B ≤ w.heap.size) : OwnT (w.alloc (.cells #[.int .i64 x.a, .int .i64 x.b, .int .i64 x.c, .int .i64 x.d] 127)) B (.slice (some ⟨w.heap.size, 0, none⟩) 1 1) [x] :=
  World.ownsRow_lit (base := B) (e := 127) (size := 4) w #[.int .i64 x.a, .int .i64 x.b, .int .i64 x.c, .int .i64 x.d] 1 hB (by decide) rfl
theorem OwnT.drew {w : World} {B : Nat} {v : Value} {ts : List T4} (h : OwnT w B v ts) : OwnT { w with drawn := w.drawn + 1 } B v ts := h
theorem OwnT.all {w : World} {B g n cap : Nat} {L : List T4} (h : OwnT w B (.slice (some ⟨g, 0, none⟩) n cap) L) (j : Nat) (u : Value) (hj : (tcells L)[j]? = some u) : w.cell? ((⟨g, 0, none⟩ : Addr).add j) = some u := by
  refine h.upto L.length j u ?_
  rw [List.take_length]; exact hj
theorem OwnT.rowlt {w : World} {B : Nat} {v : Value} {ts : List T4} (h : OwnT w B v ts) : ∀ k, v.ownBlock = some k → B ≤ k := fun k hk => (World.ownsRow.lt h k hk).1

end Go.Proofs.YtkgnejhflnekaaaGreat
