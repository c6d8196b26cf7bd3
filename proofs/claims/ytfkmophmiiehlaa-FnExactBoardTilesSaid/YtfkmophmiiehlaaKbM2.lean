/- Contracts and lemmas for the statements of this seat, written for this claim; each theorem states its own conditions. -/
import Derived.Test.YtfkmophmiiehlaaKbM1
set_option linter.unusedVariables false
set_option linter.unusedSimpArgs false
namespace Go.Proofs.Ytfkmophmiiehlaa
open Go.RowKit
/-- a placed tile: its number and its turn -/
structure P2 where
  t : Int
  n : Int
  deriving DecidableEq, Inhabited
def P2.l (p : P2) : List Int := [p.t, p.n]
def P2z : P2 := ⟨0, 0⟩
def pcells (ps : List P2) : List Value := ps.flatMap fun p => ints p.l
theorem pcells_nil : pcells [] = [] := rfl
theorem pcells_cons (p : P2) (ps : List P2) : pcells (p :: ps) = [.int .i64 p.t, .int .i64 p.n] ++ pcells ps := rfl
theorem pcells_append (xs ys : List P2) : pcells (xs ++ ys) = pcells xs ++ pcells ys := by simp [pcells]
theorem pcells_length (ps : List P2) : (pcells ps).length = ps.length * 2 := by
  induction ps with
  | nil => rfl
  | cons t ts ih => rw [pcells_cons, List.length_append, ih]; simp; omega
theorem pcells_get (ts : List P2) (k j : Nat) (hk : k < ts.length) (hj : j < 2) : (pcells ts)[k * 2 + j]? = [Value.int .i64 ts[k].t, .int .i64 ts[k].n][j]? := by
  induction ts generalizing k with
  | nil => simp at hk
  | cons t ts ih =>
    rw [pcells_cons]
    cases k with
    | zero => rw [List.getElem?_append_left (by simp; omega)]; simp
    | succ k =>
      rw [List.getElem?_append_right (by simp; omega)]
      have := ih k (by simpa using hk)
      rw [show (k + 1) * 2 + j - [Value.int .i64 t.t, .int .i64 t.n].length = k * 2 + j by simp; omega]
      simpa using this
theorem pcells_set (ts : List P2) (k : Nat) (hk : k < ts.length) (t : P2) :
    ((pcells ts).set (k * 2) (.int .i64 t.t)).set (k * 2 + 1) (.int .i64 t.n) = pcells (ts.set k t) := by
  induction ts generalizing k with
  | nil => simp at hk
  | cons s ts ih =>
    cases k with
    | zero => simp [pcells_cons]
    | succ k =>
      have := ih k (by simpa using hk)
      simp only [List.set_cons_succ, pcells_cons]
      rw [show (k + 1) * 2 = 2 + k * 2 by omega]
      have e : ∀ (l : List Value) (j : Nat) (v : Value), ([Value.int .i64 s.t, .int .i64 s.n] ++ l).set (2 + j) v = [Value.int .i64 s.t, .int .i64 s.n] ++ l.set j v := by
        intro l j v
        rw [show 2 + j = j + 1 + 1 by omega]
        simp
      rw [e, show 2 + k * 2 + 1 = 2 + (k * 2 + 1) by omega, e, this]
theorem madeCells_placed (n : Nat) : (madeCells #[Value.int .i64 0, .int .i64 0] (n * 2)).toList = pcells (List.replicate n P2z) := by
  apply List.ext_getElem?
  intro j
  by_cases hj : j < n * 2
  · have h1 := pcells_get (List.replicate n P2z) (j / 2) (j % 2) (by simp; omega) (by omega)
    rw [show j / 2 * 2 + j % 2 = j by omega] at h1
    rw [h1]
    have h2 : j % 2 = 0 ∨ j % 2 = 1 := by omega
    rcases h2 with h | h <;> simp [madeCells, hj, h, P2z]
  · rw [List.getElem?_eq_none (by simp [madeCells]; omega), List.getElem?_eq_none (by rw [pcells_length]; simp; omega)]
/-- a slice of placed tiles reads as a list -/
def PCells (w : World) (A : Option Addr) (ps : List P2) : Prop :=
  ∀ k (h : k < ps.length), ∃ b off, A = some ⟨b, off, none⟩ ∧ b < w.heap.size ∧ w.cell? ⟨b, off + k * 2, none⟩ = some (.int .i64 ps[k].t) ∧ w.cell? ⟨b, off + k * 2 + 1, none⟩ = some (.int .i64 ps[k].n)
theorem PCells.below {w w1 : World} {A : Option Addr} {ps : List P2} (h : PCells w A ps) (hb : Below w.heap.size w w1) : PCells w1 A ps := by
  intro k hk
  obtain ⟨b, off, hA, hlt, h0, h1⟩ := h k hk
  exact ⟨b, off, hA, Nat.lt_of_lt_of_le hlt hb.size, (hb.cell (p := ⟨b, _, none⟩) hlt).trans h0, (hb.cell (p := ⟨b, _, none⟩) hlt).trans h1⟩
theorem Blk.placed {w : World} {b : Nat} {ps : List P2} {T : TypeId} (h : Blk w b (pcells ps) T) : PCells w (some ⟨b, 0, none⟩) ps := by
  intro k hk
  refine ⟨b, 0, rfl, h.lt, ?_, ?_⟩
  · rw [Nat.zero_add, h.cell?]; exact pcells_get ps k 0 hk (by omega)
  · rw [Nat.zero_add, h.cell?]; exact pcells_get ps k 1 hk (by omega)
theorem Blk.placed1 {w : World} {b : Nat} {ps : List P2} {T : TypeId} (h : Blk w b (pcells ps) T) (k : Nat) (hk : k < ps.length) :
    w.cell? ⟨b, k * 2, none⟩ = some (.int .i64 ps[k].t) ∧ w.cell? ⟨b, k * 2 + 1, none⟩ = some (.int .i64 ps[k].n) := by
  refine ⟨?_, ?_⟩
  · rw [h.cell?]; exact pcells_get ps k 0 hk (by omega)
  · rw [h.cell?]; exact pcells_get ps k 1 hk (by omega)
theorem Blk.setPlaced {w : World} {b : Nat} {ps : List P2} {T : TypeId} (h : Blk w b (pcells ps) T) (k : Nat) (hk : k < ps.length) (t : P2) :
    Blk ((w.setCell ⟨b, k * 2, none⟩ (.int .i64 t.t)).setCell ⟨b, k * 2 + 1, none⟩ (.int .i64 t.n)) b (pcells (ps.set k t)) T := by
  rw [← pcells_set ps k hk t]
  exact (h.set _ _).set _ _
/-- a slice of placed tiles that the call made and owns -/
def OwnP (w : World) (B : Nat) (v : Value) (ps : List P2) : Prop := w.ownsRow B 90 2 v ps.length (pcells ps)
theorem OwnP.tiles {w : World} {B : Nat} {v : Value} {ts : List P2} (h : OwnP w B v ts) : ∃ A cx, v = .slice A ts.length cx ∧ PCells w A ts := by
  obtain ⟨h1, ⟨h3, h2⟩ | ⟨g, cap, cur, rfl, hB, hb, h3, h4, h5, h6⟩⟩ := h
  · exact ⟨none, 0, by rw [h3, h2], fun k hk => by omega⟩
  · refine ⟨some ⟨g, 0, none⟩, cap, rfl, fun k hk => ⟨g, 0, rfl, (Array.getElem?_eq_some_iff.1 hb).1, ?_⟩⟩
    have q : ∀ j, j < 2 → w.cell? ⟨g, 0 + k * 2 + j, none⟩ = [Value.int .i64 ts[k].t, .int .i64 ts[k].n][j]? := by
      intro j hj
      rw [← pcells_get ts k j hk hj, ← h6, List.getElem?_take, if_pos (by omega), Nat.zero_add]
      simp [World.cell?, hb]
    exact ⟨by simpa using q 0 (by omega), by simpa using q 1 (by omega)⟩
theorem OwnP.shape {w : World} {B : Nat} {v : Value} {ts : List P2} (h : OwnP w B v ts) : ∃ A cx, v = .slice A ts.length cx ∧ PCells w A ts ∧ True := by
  obtain ⟨A, cx, e, hT⟩ := h.tiles
  exact ⟨A, cx, e, hT, trivial⟩
theorem OwnP.below {w w1 : World} {B : Nat} {v : Value} {ts : List P2} (h : OwnP w B v ts) (hb : Below w.heap.size w w1) : OwnP w1 B v ts :=
  World.ownsRow.kept (row := none) h ⟨hb.os, hb.tape, hb.output, hb.size, fun k hk _ => hb.block k hk⟩ (by cases h : v.ownBlock with | none => exact .inl rfl | some k => exact .inr (by simp))
theorem OwnP.weaken {w : World} {B B' : Nat} {v : Value} {ts : List P2} (h : OwnP w B v ts) (hB : B' ≤ B) : OwnP w B' v ts := by
  obtain ⟨h1, h2⟩ := h
  refine ⟨h1, ?_⟩
  rcases h2 with h2 | ⟨g, cap, cur, e1, e2, e3⟩
  · exact .inl h2
  · exact .inr ⟨g, cap, cur, e1, Nat.le_trans hB e2, e3⟩
theorem OwnP.grown {w w1 : World} {B : Nat} {v : Value} {ts : List P2} {row : Option Nat} (h : OwnP w B v ts) (hg : w.grownBy w1 row) (hne : v.ownBlock = none ∨ v.ownBlock ≠ row) : OwnP w1 B v ts := World.ownsRow.kept h hg hne
theorem OwnP.setOther {w : World} {B : Nat} {v : Value} {xs : List P2} (h : OwnP w B v xs) (a : Addr) (ha : a.block < B) (u : Value) : OwnP (w.setCell a u) B v xs :=
  World.ownsRow.kept (row := some a.block) h ⟨rfl, rfl, rfl, by simp, fun k hk hne => Below.heap_setCell w a u k (fun e => hne (by simp [e]))⟩ (by
    cases e : v.ownBlock with
    | none => exact .inl rfl
    | some k => right; have := (World.ownsRow.lt h k e).1; intro e2; injection e2 with e2; omega)
theorem Blk.ownP {w : World} {b B : Nat} {ps : List P2} (h : Blk w b (pcells ps) 90) (hB : B ≤ b) (hl : ps.length ≤ 9223372036854775807) : OwnP w B (.slice (some ⟨b, 0, none⟩) ps.length ps.length) ps := by
  refine ⟨pcells_length ps, .inr ⟨b, ps.length, (pcells ps).toArray, rfl, hB, h, Nat.le_refl _, by simpa [maxLen] using hl, by simp [pcells_length], ?_⟩⟩
  exact List.take_of_length_le (by rw [pcells_length]; exact Nat.le_refl _)
theorem own_apartP {w1 w2 : World} {B : Nat} {v u : Value} {xs ys : List P2} (hv : OwnP w1 B v xs) (hu : OwnP w2 w1.heap.size u ys) : (v.ownBlock = none ∨ v.ownBlock ≠ u.ownBlock) ∧ (u.ownBlock = none ∨ u.ownBlock ≠ v.ownBlock) := by
  cases e1 : v.ownBlock with
  | none => exact ⟨.inl rfl, by cases e2 : u.ownBlock with | none => exact .inl rfl | some k => exact .inr (by simp)⟩
  | some j =>
    cases e2 : u.ownBlock with
    | none => exact ⟨.inr (by simp), .inl rfl⟩
    | some k =>
      have h1 := (World.ownsRow.lt hv j e1).2
      have h2 := (World.ownsRow.lt hu k e2).1
      exact ⟨.inr (by simp; omega), .inr (by simp; omega)⟩
theorem OwnP.same {w w' : World} {B : Nat} {v : Value} {xs : List P2} (h : OwnP w B v xs) (hs : ∀ k, B ≤ k → k < w.heap.size → w'.heap[k]? = w.heap[k]?) : OwnP w' B v xs :=
  ownsRow_same h fun k hk => hs k (World.ownsRow.lt h k hk).1 (World.ownsRow.lt h k hk).2
theorem infoPl : (Try.prog.info? 90).map (fun i => (i.zero, i.size, i.bytes)) = some (some (.agg #[.int .i64 0, .int .i64 0]), 2, 16) := by kernel_rfl
theorem infoPs : (Try.prog.info? 87).map (fun i => (i.zero, i.size, i.bytes)) = some (some (.slice none 0 0), 1, 24) := by kernel_rfl
set_option maxRecDepth 100000 in
set_option maxHeartbeats 1000000 in
theorem toPlaced_c (t : P2) (w : World) :
    Calls Try.prog 117 #[.agg #[.int .i64 t.t, .int .i64 t.n]] w fun e w' => e = .returned (.agg #[.int .i64 t.t, .int .i64 t.n]) ∧ Below w.heap.size w w' := by
  go_enter Try.func117, Try.ntmps117
  go_wp2
  exact bodyPost_ret (v := .agg #[.int .i64 t.t, .int .i64 t.n]) (by simp [results, Try.results117, go_sem]) rfl ⟨rfl, by (repeat (first | (with_reducible exact Below.refl _ _) | (with_reducible assumption) | (with_reducible refine below_al ?_) | (with_reducible refine below_dr ?_) | (with_reducible refine below_drN ?_) | (with_reducible refine below_set ?_ (by first | exact Nat.le_refl _ | (dsimp only; omega) | omega)) | (with_reducible refine below_tr (by with_reducible assumption) ?_)))⟩
set_option maxRecDepth 100000 in
set_option maxHeartbeats 1000000 in
theorem toPlacedS_c (ts : List P2) (A : Option Addr) (cx : Nat) (w : World) (hT : PCells w A ts) (hl : ts.length ≤ 1048576) :
    Calls Try.prog 64 #[.slice A ts.length cx] w fun e w' => ∃ b, e = .returned (.slice (some ⟨b, 0, none⟩) ts.length ts.length) ∧ w.heap.size ≤ b ∧ Blk w' b (pcells ts) 90 ∧ Below w.heap.size w w' := by
  have hm := fun w => make_k (P := Try.prog) 87 90 _ 2 16 Try.underlying87 infoPl ts.length (by omega) (by omega) w
  go_enter Try.func64, Try.ntmps64
  go_wp2
  clear hm
  go_loopw [4] (fun i wr => ∃ k : Nat, k ≤ ts.length ∧ i = .int .i64 k ∧ Blk wr w.heap.size (pcells (ts.take k ++ List.replicate (ts.length - k) P2z)) 90 ∧ Below w.heap.size w wr) (fun i _ => ts.length - (intOf i).toNat)
  case atStart => exact ⟨0, by omega, rfl, by simp only [List.take_zero, List.nil_append, Nat.sub_zero]; rw [← madeCells_placed]; exact Blk.newA _ _ _, by (repeat (first | (with_reducible exact Below.refl _ _) | (with_reducible assumption) | (with_reducible refine below_al ?_) | (with_reducible refine below_dr ?_) | (with_reducible refine below_drN ?_) | (with_reducible refine below_set ?_ (by first | exact Nat.le_refl _ | (dsimp only; omega) | omega)) | (with_reducible refine below_tr (by with_reducible assumption) ?_)))⟩
  case round =>
    obtain ⟨k, hk, rfl, hB, hb⟩ := hrel
    have HB := Lib.hid hB
    by_cases h1 : k < ts.length
    · obtain ⟨b, off, rfl, hlt, c0, c1⟩ := (hT.below hb) k h1
      have HS := Lib.hid (take_rep_set ts P2z k h1)
      obtain ⟨r0, r1⟩ := hB.placed1 k (by simp; omega)
      have z0 := hB.frozen (k * 2)
      have z1 := hB.frozen (k * 2 + 1)
      have hk4 : k < (ts.take k ++ List.replicate (ts.length - k) P2z).length := by simp; omega
      have Hk4 := Lib.hid hk4
      have HT := Lib.hid hT
      have Hbb := Lib.hid hb
      clear hB hT hk4 hb
      generalize hts : ts[k] = t at *
      clear hts
      have hlt0 := HB.out.lt
      go_wp2_with (go_at_call 117; refine (toPlaced_c t _).mono ?_; rintro e w1 ⟨rfl, hb1⟩; have Hb1 := Lib.hid hb1; obtain ⟨hc1, hf1⟩ := bcell hb1)
      go_roundw
      case rel => exact ⟨k + 1, by omega, by go_num, by rw [← HS.out]; exact (HB.out.under Hb1.out).setPlaced k Hk4.out t,
        ((Hbb.out.trans (Hb1.out.mono (by omega))).setCell (Nat.le_refl _) _).setCell (Nat.le_refl _) _⟩
      case measure => simp [intOf]; omega
    · obtain rfl : k = ts.length := by omega
      clear hB
      go_wp2
      go_ret
      exact ⟨_, rfl, Nat.le_refl _, by have := HB.out; simpa using this, hb⟩

end Go.Proofs.Ytfkmophmiiehlaa
