/- Contracts and lemmas for the statements of this seat, written for this claim; each theorem states its own conditions. -/
import Derived.Laws.EntriesVeiled
import Derived.Test.YtfkmophmiiehlaaVpSt
import Derived.Test.YtfkmophmiiehlaaVpRo
import Derived.Test.YtfkmophmiiehlaaVpMk
set_option linter.unusedVariables false
set_option linter.unusedSimpArgs false
namespace Go.Proofs.Ytfkmophmiiehlaa
open Go.RowKit
/-- columns read as a list -/
def ColCells (w : World) (A : Option Addr) (xs : List Col) : Prop :=
  ∀ k (h : k < xs.length), ∃ b off, A = some ⟨b, off, none⟩ ∧ b < w.heap.size ∧ w.cell? ⟨b, off + k * 3, none⟩ = some (.int .i64 xs[k].w) ∧ w.cell? ⟨b, off + k * 3 + 1, none⟩ = some (.int .i64 xs[k].e) ∧ w.cell? ⟨b, off + k * 3 + 2, none⟩ = some (.int .i64 xs[k].n)
theorem ColCells.below {w w1 : World} {A : Option Addr} {xs : List Col} (h : ColCells w A xs) (hb : Below w.heap.size w w1) : ColCells w1 A xs := by
  intro k hk
  obtain ⟨b, off, hA, hlt, h0, h1, h2⟩ := h k hk
  exact ⟨b, off, hA, Nat.lt_of_lt_of_le hlt hb.size, (hb.cell (p := ⟨b, _, none⟩) hlt).trans h0, (hb.cell (p := ⟨b, _, none⟩) hlt).trans h1, (hb.cell (p := ⟨b, _, none⟩) hlt).trans h2⟩
theorem OwnC.cols {w : World} {B n cx : Nat} {A : Option Addr} {xs : List Col} (h : OwnC w B (.slice A n cx) xs) : ColCells w A xs := by
  intro k hk
  have h0 := h
  obtain ⟨h1, h2⟩ := h
  rcases h2 with ⟨e1, e2⟩ | ⟨g, cap, cur, e1, e2, e3, _⟩
  · omega
  · injection e1 with a1 a2 a3
    subst a1 a2 a3
    have hc := fun j (hj : j < 3) => World.ownsRow.cellAt h0 (k * 3 + j) (by omega)
    have hg := fun j (hj : j < 3) => ccells_get xs k j hk hj
    have c0 := hc 0 (by omega)
    have c1 := hc 1 (by omega)
    have c2 := hc 2 (by omega)
    rw [hg 0 (by omega)] at c0
    rw [hg 1 (by omega)] at c1
    rw [hg 2 (by omega)] at c2
    simp only [Nat.add_zero, List.getElem?_cons_zero, List.getElem?_cons_succ] at c0 c1 c2
    exact ⟨g, 0, rfl, World.block_lt_of_cell? w _ c0, by rw [Nat.zero_add]; exact c0, by rw [Nat.zero_add]; exact c1, by rw [Nat.zero_add]; exact c2⟩
/-- block g holds a strip that is only read any more -/
def StripR (w : World) (g : Nat) (c : Int) (A : Option Addr) (n cx : Nat) (h words : Int) (xs : List Col) : Prop :=
  ∃ C cc, Blk w g [.int .i64 c, .slice A n cx, .int .i64 h, .int .i64 words, .slice C xs.length cc] 131 ∧ ColCells w C xs
theorem StripR.below {w w1 : World} {g : Nat} {c : Int} {A : Option Addr} {n cx : Nat} {h words : Int} {xs : List Col} (hs : StripR w g c A n cx h words xs) (hb : Below w.heap.size w w1) : StripR w1 g c A n cx h words xs := by
  obtain ⟨C, cc, h1, h2⟩ := hs
  exact ⟨C, cc, h1.under hb, h2.below hb⟩
theorem StripSt.read {w : World} {B g : Nat} {c : Int} {A : Option Addr} {n cx : Nat} {h words : Int} {xs : List Col} (hs : StripSt w B g c A n cx h words xs) : StripR w g c A n cx h words xs := by
  obtain ⟨v, h1, h2⟩ := hs
  obtain ⟨C, cc, rfl⟩ := h2.shape
  exact ⟨C, cc, h1, h2.cols⟩
end Go.Proofs.Ytfkmophmiiehlaa
namespace Go.Proofs.Ytfkmophmiiehlaa
open Go.RowKit
def crow (k : Col) : List Int := [k.n, k.w, k.e, k.s]
def crows (l : List Col) : List (List Int) := l.map crow
theorem crows_len (l : List Col) : (crows l).length = l.length := by simp [crows]
theorem crows_append (l m : List Col) : crows (l ++ m) = crows l ++ crows m := by simp [crows]
theorem grown_dr {w W : World} {r : Option Nat} (h : w.grownBy W r) : w.grownBy W.drew r := ⟨h.os, h.tape, h.output, h.size, h.block⟩
theorem OwnII.lt {w : World} {B : Nat} {v : Value} {L : List (List Int)} (h : OwnII w B v L) : ∀ k, v.ownBlock = some k → B ≤ k ∧ k < w.heap.size := by
  obtain ⟨vs, h1, _⟩ := h
  exact fun k hk => World.ownsRow.lt h1 k hk
theorem OwnII.lit {w : World} {B g n : Nat} {cs : Array Value} {xs : List Int} (hg : w.heap.size = g) (hn : n = xs.length) (hc : cs.toList = ints xs) (hl : xs.length ≤ 1000000) (hB : B ≤ w.heap.size) :
    OwnII ((w.alloc (.cells cs 2)).alloc (.cells #[.slice (some ⟨g, 0, none⟩) n n] 63)) B (.slice (some ⟨g + 1, 0, none⟩) 1 1) [xs] := by
  subst hg hn
  refine ⟨[.slice (some ⟨w.heap.size, 0, none⟩) xs.length xs.length], ?_, fun i h h' => ?_, fun i j h h' hij => ?_, fun i h => ?_⟩
  · have := World.ownsRow_lit (base := B) (e := 63) (size := 1) (w.alloc (.cells cs 2)) #[.slice (some ⟨w.heap.size, 0, none⟩) xs.length xs.length] 1 (by simp; omega) (by simp [maxLen]) (by simp)
    simpa using this
  · have hi : i = 0 := by simp at h; omega
    subst hi
    exact (OwnI.made w B cs xs hc hB (by omega)).alloc _
  · simp at h h'; omega
  · have hi : i = 0 := by simp at h; omega
    subst hi
    exact Apart.blk (by omega)
end Go.Proofs.Ytfkmophmiiehlaa
namespace Go.Proofs.Ytfkmophmiiehlaa
open Go.RowKit
/-- one step of a way under a colour: which words are reached -/
def tstep (colour : Option Int) (now nx : List Bool) (k : Col) : List Bool := if colour.all (· == k.n) && now.getD k.w.toNat false then nx.set k.e.toNat true else nx
def tgo (S : Nat) (cols : List Col) (colour : Option Int) (now : List Bool) : List Bool := cols.foldl (tstep colour now) (List.replicate S false)
def trun (S : Nat) (cols : List Col) (now : List Bool) (word : List Int) : List Bool := word.foldl (fun now x => tgo S cols (some x) now) now
def Codes (S : Nat) (cols : List Col) : Prop := ∀ k ∈ cols, (0 ≤ k.w ∧ k.w < S) ∧ (0 ≤ k.e ∧ k.e < S)
theorem tstep_len (o : Option Int) (now nx : List Bool) (k : Col) : (tstep o now nx k).length = nx.length := by unfold tstep; split <;> simp
theorem tfold_len (o : Option Int) (now : List Bool) : ∀ (cols : List Col) (nx : List Bool), (cols.foldl (tstep o now) nx).length = nx.length
  | [], nx => rfl
  | k :: cols, nx => by rw [List.foldl_cons, tfold_len o now cols, tstep_len]
theorem tgo_len (S : Nat) (cols : List Col) (o : Option Int) (now : List Bool) : (tgo S cols o now).length = S := by unfold tgo; rw [tfold_len]; simp
theorem tgo_take (S : Nat) (cols : List Col) (o : Option Int) (now : List Bool) (j : Nat) (hj : j < cols.length) : tgo S (cols.take (j + 1)) o now = tstep o now (tgo S (cols.take j) o now) cols[j] := by
  unfold tgo; rw [List.take_succ_eq_append_getElem hj, List.foldl_append]; rfl
theorem trun_take (S : Nat) (cols : List Col) (now : List Bool) (word : List Int) (j : Nat) (hj : j < word.length) : trun S cols now (word.take (j + 1)) = tgo S cols (some word[j]) (trun S cols now (word.take j)) := by
  unfold trun; rw [List.take_succ_eq_append_getElem hj, List.foldl_append]; rfl
theorem trun_len (S : Nat) (cols : List Col) (now : List Bool) (word : List Int) (h : now.length = S) : (trun S cols now word).length = S := by
  unfold trun
  induction word generalizing now with
  | nil => exact h
  | cons x l ih => rw [List.foldl_cons]; exact ih _ (tgo_len ..)
/-- nothing is reached from nothing -/
theorem tfold_none (o : Option Int) (now : List Bool) (h : now.contains true = false) : ∀ (cols : List Col) (nx : List Bool), cols.foldl (tstep o now) nx = nx
  | [], nx => rfl
  | k :: cols, nx => by
    have hz : now.getD k.w.toNat false = false := by
      cases hg : now.getD k.w.toNat false with
      | false => rfl
      | true =>
        have : true ∈ now := by
          by_cases hlt : k.w.toNat < now.length
          · simp [hlt] at hg; rw [← hg]; exact List.getElem_mem _
          · simp [Nat.le_of_not_lt hlt] at hg
        rw [← List.contains_iff_mem] at this
        rw [h] at this; exact absurd this (by decide)
    rw [List.foldl_cons, show tstep o now nx k = nx by unfold tstep; rw [hz]; simp]
    exact tfold_none o now h cols nx
theorem tgo_none (S : Nat) (cols : List Col) (o : Option Int) (now : List Bool) (h : now.contains true = false) : (tgo S cols o now).contains true = false := by
  unfold tgo
  rw [tfold_none o now h]
  simp [List.contains_iff_mem]
theorem trun_none (S : Nat) (cols : List Col) : ∀ (word : List Int) (now : List Bool), now.contains true = false → (trun S cols now word).contains true = false
  | [], now, h => h
  | x :: l, now, h => trun_none S cols l _ (tgo_none S cols _ now h)
/-- whether some column is gone over -/
def tsome (cols : List Col) (o : Option Int) (now : List Bool) : Bool := cols.any fun k => o.all (· == k.n) && now.getD k.w.toNat false
theorem tfold_some (o : Option Int) (now : List Bool) {S : Nat} : ∀ (cols : List Col) (nx : List Bool), Codes S cols → nx.length = S → (cols.foldl (tstep o now) nx).contains true = (nx.contains true || tsome cols o now)
  | [], nx, _, _ => by simp [tsome]
  | k :: cols, nx, hc, hl => by
    have hk := hc k (List.mem_cons_self ..)
    rw [List.foldl_cons, tfold_some o now cols _ (fun x hx => hc x (List.mem_cons_of_mem _ hx)) (by rw [tstep_len]; exact hl)]
    unfold tstep tsome
    rw [List.any_cons]
    by_cases h : (o.all (· == k.n) && now.getD k.w.toNat false) = true
    · rw [if_pos h, h]
      have : (nx.set k.e.toNat true).contains true = true := by
        rw [List.contains_iff_mem]
        exact List.mem_iff_getElem.2 ⟨k.e.toNat, by rw [List.length_set]; omega, by simp⟩
      rw [this]
      simp
    · rw [if_neg h]
      simp only [Bool.not_eq_true] at h
      rw [h]
      simp
theorem tgo_some {S : Nat} {cols : List Col} (hc : Codes S cols) (o : Option Int) (now : List Bool) : (tgo S cols o now).contains true = tsome cols o now := by
  unfold tgo
  rw [tfold_some o now cols _ hc (by simp)]
  simp [List.contains_iff_mem]
def traceB (S : Nat) (cols : List Col) (word : List Int) : Bool := (trun S cols (List.replicate S true) word).contains true
theorem traceB_stop {S : Nat} {cols : List Col} {word : List Int} (hc : Codes S cols) (j : Nat) (hj : j < word.length) (h : tsome cols (some word[j]) (trun S cols (List.replicate S true) (word.take j)) = false) : traceB S cols word = false := by
  unfold traceB
  have h1 : (trun S cols (List.replicate S true) (word.take (j + 1))).contains true = false := by
    rw [trun_take _ _ _ _ _ hj, tgo_some hc]; exact h
  have h2 : trun S cols (List.replicate S true) word = trun S cols (trun S cols (List.replicate S true) (word.take (j + 1))) (word.drop (j + 1)) := by
    unfold trun; rw [← List.foldl_append, List.take_append_drop]
  rw [h2]
  exact trun_none S cols _ _ h1
end Go.Proofs.Ytfkmophmiiehlaa
