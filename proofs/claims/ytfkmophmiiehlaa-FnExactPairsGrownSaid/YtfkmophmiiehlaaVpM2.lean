/- Contracts and lemmas for the statements of this seat, written for this claim; each theorem states its own conditions. -/
import Derived.Test.YtfkmophmiiehlaaVpM1
set_option linter.unusedVariables false
set_option linter.unusedSimpArgs false
namespace Go.Proofs.Ytfkmophmiiehlaa
open Go.RowKit
/-- a placed tile: its number and its turn -/
structure P2 where
  t : Int
  n : Int
  deriving DecidableEq, Inhabited
def P2.l (p : P2) : List Int := [p.t, p.n]
def P2z : P2 := ⟨0, 0⟩
def pcells (ps : List P2) : List Value := ps.flatMap fun p => ints p.l
theorem pcells_nil : pcells [] = [] := rfl
theorem pcells_cons (p : P2) (ps : List P2) : pcells (p :: ps) = [.int .i64 p.t, .int .i64 p.n] ++ pcells ps := rfl
theorem pcells_append (xs ys : List P2) : pcells (xs ++ ys) = pcells xs ++ pcells ys := by simp [pcells]
theorem pcells_length (ps : List P2) : (pcells ps).length = ps.length * 2 := by
  induction ps with
  | nil => rfl
  | cons t ts ih => rw [pcells_cons, List.length_append, ih]; simp; omega
theorem pcells_get (ts : List P2) (k j : Nat) (hk : k < ts.length) (hj : j < 2) : (pcells ts)[k * 2 + j]? = [Value.int .i64 ts[k].t, .int .i64 ts[k].n][j]? := by
  induction ts generalizing k with
  | nil => simp at hk
  | cons t ts ih =>
    rw [pcells_cons]
    cases k with
    | zero => rw [List.getElem?_append_left (by simp; omega)]; simp
    | succ k =>
      rw [List.getElem?_append_right (by simp; omega)]
      have := ih k (by simpa using hk)
      rw [show (k + 1) * 2 + j - [Value.int .i64 t.t, .int .i64 t.n].length = k * 2 + j by simp; omega]
      simpa using this
theorem pcells_set (ts : List P2) (k : Nat) (hk : k < ts.length) (t : P2) :
    ((pcells ts).set (k * 2) (.int .i64 t.t)).set (k * 2 + 1) (.int .i64 t.n) = pcells (ts.set k t) := by
  induction ts generalizing k with
  | nil => simp at hk
  | cons s ts ih =>
    cases k with
    | zero => simp [pcells_cons]
    | succ k =>
      have := ih k (by simpa using hk)
      simp only [List.set_cons_succ, pcells_cons]
      rw [show (k + 1) * 2 = 2 + k * 2 by omega]
      have e : ∀ (l : List Value) (j : Nat) (v : Value), ([Value.int .i64 s.t, .int .i64 s.n] ++ l).set (2 + j) v = [Value.int .i64 s.t, .int .i64 s.n] ++ l.set j v := by
        intro l j v
        rw [show 2 + j = j + 1 + 1 by omega]
        simp
      rw [e, show 2 + k * 2 + 1 = 2 + (k * 2 + 1) by omega, e, this]
theorem madeCells_placed (n : Nat) : (madeCells #[Value.int .i64 0, .int .i64 0] (n * 2)).toList = pcells (List.replicate n P2z) := by
  apply List.ext_getElem?
  intro j
  by_cases hj : j < n * 2
  · have h1 := pcells_get (List.replicate n P2z) (j / 2) (j % 2) (by simp; omega) (by omega)
    rw [show j / 2 * 2 + j % 2 = j by omega] at h1
    rw [h1]
    have h2 : j % 2 = 0 ∨ j % 2 = 1 := by omega
    rcases h2 with h | h <;> simp [madeCells, hj, h, P2z]
  · rw [List.getElem?_eq_none (by simp [madeCells]; omega), List.getElem?_eq_none (by rw [pcells_length]; simp; omega)]
/-- a slice of placed tiles reads as a list -/
def PCells (w : World) (A : Option Addr) (ps : List P2) : Prop :=
  ∀ k (h : k < ps.length), ∃ b off, A = some ⟨b, off, none⟩ ∧ b < w.heap.size ∧ w.cell? ⟨b, off + k * 2, none⟩ = some (.int .i64 ps[k].t) ∧ w.cell? ⟨b, off + k * 2 + 1, none⟩ = some (.int .i64 ps[k].n)
theorem PCells.below {w w1 : World} {A : Option Addr} {ps : List P2} (h : PCells w A ps) (hb : Below w.heap.size w w1) : PCells w1 A ps := by
  intro k hk
  obtain ⟨b, off, hA, hlt, h0, h1⟩ := h k hk
  exact ⟨b, off, hA, Nat.lt_of_lt_of_le hlt hb.size, (hb.cell (p := ⟨b, _, none⟩) hlt).trans h0, (hb.cell (p := ⟨b, _, none⟩) hlt).trans h1⟩
theorem Blk.placed {w : World} {b : Nat} {ps : List P2} {T : TypeId} (h : Blk w b (pcells ps) T) : PCells w (some ⟨b, 0, none⟩) ps := by
  intro k hk
  refine ⟨b, 0, rfl, h.lt, ?_, ?_⟩
  · rw [Nat.zero_add, h.cell?]; exact pcells_get ps k 0 hk (by omega)
  · rw [Nat.zero_add, h.cell?]; exact pcells_get ps k 1 hk (by omega)
theorem Blk.placed1 {w : World} {b : Nat} {ps : List P2} {T : TypeId} (h : Blk w b (pcells ps) T) (k : Nat) (hk : k < ps.length) :
    w.cell? ⟨b, k * 2, none⟩ = some (.int .i64 ps[k].t) ∧ w.cell? ⟨b, k * 2 + 1, none⟩ = some (.int .i64 ps[k].n) := by
  refine ⟨?_, ?_⟩
  · rw [h.cell?]; exact pcells_get ps k 0 hk (by omega)
  · rw [h.cell?]; exact pcells_get ps k 1 hk (by omega)
theorem Blk.setPlaced {w : World} {b : Nat} {ps : List P2} {T : TypeId} (h : Blk w b (pcells ps) T) (k : Nat) (hk : k < ps.length) (t : P2) :
    Blk ((w.setCell ⟨b, k * 2, none⟩ (.int .i64 t.t)).setCell ⟨b, k * 2 + 1, none⟩ (.int .i64 t.n)) b (pcells (ps.set k t)) T := by
  rw [← pcells_set ps k hk t]
  exact (h.set _ _).set _ _
/-- a slice of placed tiles that the call made and owns -/
def OwnP (w : World) (B : Nat) (v : Value) (ps : List P2) : Prop := w.ownsRow B 90 2 v ps.length (pcells ps)
theorem OwnP.tiles {w : World} {B : Nat} {v : Value} {ts : List P2} (h : OwnP w B v ts) : ∃ A cx, v = .slice A ts.length cx ∧ PCells w A ts := by
  obtain ⟨h1, ⟨h3, h2⟩ | ⟨g, cap, cur, rfl, hB, hb, h3, h4, h5, h6⟩⟩ := h
  · exact ⟨none, 0, by rw [h3, h2], fun k hk => by omega⟩
  · refine ⟨some ⟨g, 0, none⟩, cap, rfl, fun k hk => ⟨g, 0, rfl, (Array.getElem?_eq_some_iff.1 hb).1, ?_⟩⟩
    have q : ∀ j, j < 2 → w.cell? ⟨g, 0 + k * 2 + j, none⟩ = [Value.int .i64 ts[k].t, .int .i64 ts[k].n][j]? := by
      intro j hj
      rw [← pcells_get ts k j hk hj, ← h6, List.getElem?_take, if_pos (by omega), Nat.zero_add]
      simp [World.cell?, hb]
    exact ⟨by simpa using q 0 (by omega), by simpa using q 1 (by omega)⟩
theorem OwnP.shape {w : World} {B : Nat} {v : Value} {ts : List P2} (h : OwnP w B v ts) : ∃ A cx, v = .slice A ts.length cx ∧ PCells w A ts ∧ True := by
  obtain ⟨A, cx, e, hT⟩ := h.tiles
  exact ⟨A, cx, e, hT, trivial⟩
theorem OwnP.below {w w1 : World} {B : Nat} {v : Value} {ts : List P2} (h : OwnP w B v ts) (hb : Below w.heap.size w w1) : OwnP w1 B v ts :=
  World.ownsRow.kept (row := none) h ⟨hb.os, hb.tape, hb.output, hb.size, fun k hk _ => hb.block k hk⟩ (by cases h : v.ownBlock with | none => exact .inl rfl | some k => exact .inr (by simp))
theorem OwnP.weaken {w : World} {B B' : Nat} {v : Value} {ts : List P2} (h : OwnP w B v ts) (hB : B' ≤ B) : OwnP w B' v ts := by
  obtain ⟨h1, h2⟩ := h
  refine ⟨h1, ?_⟩
  rcases h2 with h2 | ⟨g, cap, cur, e1, e2, e3⟩
  · exact .inl h2
  · exact .inr ⟨g, cap, cur, e1, Nat.le_trans hB e2, e3⟩
theorem OwnP.grown {w w1 : World} {B : Nat} {v : Value} {ts : List P2} {row : Option Nat} (h : OwnP w B v ts) (hg : w.grownBy w1 row) (hne : v.ownBlock = none ∨ v.ownBlock ≠ row) : OwnP w1 B v ts := World.ownsRow.kept h hg hne
theorem OwnP.setOther {w : World} {B : Nat} {v : Value} {xs : List P2} (h : OwnP w B v xs) (a : Addr) (ha : a.block < B) (u : Value) : OwnP (w.setCell a u) B v xs :=
  World.ownsRow.kept (row := some a.block) h ⟨rfl, rfl, rfl, by simp, fun k hk hne => Below.heap_setCell w a u k (fun e => hne (by simp [e]))⟩ (by
    cases e : v.ownBlock with
    | none => exact .inl rfl
    | some k => right; have := (World.ownsRow.lt h k e).1; intro e2; injection e2 with e2; omega)
theorem Blk.ownP {w : World} {b B : Nat} {ps : List P2} (h : Blk w b (pcells ps) 90) (hB : B ≤ b) (hl : ps.length ≤ 9223372036854775807) : OwnP w B (.slice (some ⟨b, 0, none⟩) ps.length ps.length) ps := by
  refine ⟨pcells_length ps, .inr ⟨b, ps.length, (pcells ps).toArray, rfl, hB, h, Nat.le_refl _, by simpa [maxLen] using hl, by simp [pcells_length], ?_⟩⟩
  exact List.take_of_length_le (by rw [pcells_length]; exact Nat.le_refl _)
theorem own_apartP {w1 w2 : World} {B : Nat} {v u : Value} {xs ys : List P2} (hv : OwnP w1 B v xs) (hu : OwnP w2 w1.heap.size u ys) : (v.ownBlock = none ∨ v.ownBlock ≠ u.ownBlock) ∧ (u.ownBlock = none ∨ u.ownBlock ≠ v.ownBlock) := by
  cases e1 : v.ownBlock with
  | none => exact ⟨.inl rfl, by cases e2 : u.ownBlock with | none => exact .inl rfl | some k => exact .inr (by simp)⟩
  | some j =>
    cases e2 : u.ownBlock with
    | none => exact ⟨.inr (by simp), .inl rfl⟩
    | some k =>
      have h1 := (World.ownsRow.lt hv j e1).2
      have h2 := (World.ownsRow.lt hu k e2).1
      exact ⟨.inr (by simp; omega), .inr (by simp; omega)⟩
theorem OwnP.same {w w' : World} {B : Nat} {v : Value} {xs : List P2} (h : OwnP w B v xs) (hs : ∀ k, B ≤ k → k < w.heap.size → w'.heap[k]? = w.heap[k]?) : OwnP w' B v xs :=
  ownsRow_same h fun k hk => hs k (World.ownsRow.lt h k hk).1 (World.ownsRow.lt h k hk).2
theorem infoPl : (Try.prog.info? 90).map (fun i => (i.zero, i.size, i.bytes)) = some (some (.agg #[.int .i64 0, .int .i64 0]), 2, 16) := by kernel_rfl
theorem infoPs : (Try.prog.info? 87).map (fun i => (i.zero, i.size, i.bytes)) = some (some (.slice none 0 0), 1, 24) := by kernel_rfl
end Go.Proofs.Ytfkmophmiiehlaa
namespace Go.Proofs.Ytfkmophmiiehlaa
open Go.RowKit
/-- a slice of slices of numbers reads as a list of lists -/
def RowsP (w : World) (B : Option Addr) (L : List (List P2)) : Prop :=
  ∀ k (h : k < L.length), ∃ b off A cx, B = some ⟨b, off, none⟩ ∧ b < w.heap.size ∧ w.cell? ⟨b, off + k, none⟩ = some (.slice A L[k].length cx) ∧ PCells w A L[k]
theorem RowsP.below {w w1 : World} {B : Option Addr} {L : List (List P2)} (h : RowsP w B L) (hb : Below w.heap.size w w1) : RowsP w1 B L := by
  intro k hk
  obtain ⟨b, off, A, cx, e, hlt, hc, hr⟩ := h k hk
  exact ⟨b, off, A, cx, e, Nat.lt_of_lt_of_le hlt hb.size, (hb.cell (p := ⟨b, _, none⟩) hlt).trans hc, hr.below hb⟩
theorem RowsP.pair {w : World} {b off : Nat} {L : List (List P2)} (h : RowsP w (some ⟨b, off, none⟩) L) (k : Nat) (hk : k < L.length) : ∃ A cx, w.cell? ⟨b, off + k, none⟩ = some (.slice A L[k].length cx) ∧ PCells w A L[k] := by
  obtain ⟨b', off', A, cx, e, hlt, hc, hr⟩ := h k hk
  injection e with e
  injection e with e1 e2
  subst e1 e2
  exact ⟨A, cx, hc, hr⟩
def totP (L : List (List P2)) : Nat := (L.map fun r => r.length * 2).sum
theorem totP_take {L : List (List P2)} {k : Nat} (hk : k < L.length) : totP (L.take (k + 1)) = totP (L.take k) + L[k].length * 2 := by
  unfold totP; rw [List.take_succ_eq_append_getElem hk, List.map_append, List.sum_append]; simp
def ShortP (n : Nat) (L : List (List P2)) : Prop := ∀ k (h : k < L.length), L[k].length ≤ n
/-- a slice of slices of numbers that the call made and owns, its rows apart from each other -/
def OwnPP (w : World) (B : Nat) (v : Value) (L : List (List P2)) : Prop :=
  ∃ vs : List Value, w.ownsRow B 87 1 v L.length vs ∧ (∀ i (h : i < vs.length) (h' : i < L.length), OwnP w B vs[i] L[i]) ∧
    (∀ i j (h : i < vs.length) (h' : j < vs.length), i ≠ j → Apart vs[i] vs[j]) ∧ ∀ i (h : i < vs.length), Apart vs[i] v
def sumP (L : List (List P2)) : Nat := (L.map List.length).sum
theorem sumP_take {L : List (List P2)} {k : Nat} (hk : k < L.length) : sumP (L.take (k + 1)) = sumP (L.take k) + L[k].length := by
  unfold sumP; rw [List.take_succ_eq_append_getElem hk, List.map_append, List.sum_append]; simp
theorem totP_sum : ∀ L : List (List P2), totP L = sumP L * 2
  | [] => by simp [totP, sumP]
  | r :: L => by have := totP_sum L; simp [totP, sumP] at *; omega
theorem OwnPP.rows {w : World} {B : Nat} {v : Value} {L : List (List P2)} (h : OwnPP w B v L) : ∃ A cx, v = .slice A L.length cx ∧ RowsP w A L := by
  obtain ⟨vs, h1, h2, _⟩ := h
  have hl : vs.length = L.length := by have := h1.1; omega
  obtain ⟨_, h3⟩ := h1
  rcases h3 with ⟨rfl, h3⟩ | ⟨g, cap, cur, rfl, e2, e3, e4, e5, e6, e7⟩
  · exact ⟨none, 0, by rw [h3], fun k hk => by omega⟩
  · refine ⟨some ⟨g, 0, none⟩, cap, rfl, fun k hk => ?_⟩
    obtain ⟨A, cx, e, hc, _⟩ := (h2 k (by omega) hk).shape
    refine ⟨g, 0, A, cx, rfl, (Array.getElem?_eq_some_iff.1 e3).1, ?_, hc⟩
    rw [Nat.zero_add]
    unfold World.cell?
    simp only [e3]
    have hk2 : k < vs.length := by omega
    have h9 : (cur.toList.take (L.length * 1))[k]? = some (vs[k]'hk2) := by rw [e7]; exact List.getElem?_eq_getElem hk2
    rw [List.getElem?_take] at h9
    simp [hk] at h9
    simp [h9, e]
end Go.Proofs.Ytfkmophmiiehlaa
