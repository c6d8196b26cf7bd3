/- Contracts and lemmas for the statements of this seat, written for this claim; each theorem states its own conditions. -/
import Derived.Laws.EntriesVeiled
import Derived.Laws.BitsLemmas
import Derived.Laws.IdiomCopy
import Derived.Test.YtkgnejhflnekaaaGreatNgDr
import Derived.Test.YtkgnejhflnekaaaGreatNgSe
import Derived.Test.YtkgnejhflnekaaaGreatNgMk
set_option linter.unusedVariables false
set_option linter.unusedSimpArgs false
namespace Go.Proofs.YtkgnejhflnekaaaGreat
open Go.RowKit
/-- columns read as a list -/
def ColCells (w : World) (A : Option Addr) (xs : List Col) : Prop :=
  ∀ k (h : k < xs.length), ∃ b off, A = some ⟨b, off, none⟩ ∧ b < w.heap.size ∧ w.cell? ⟨b, off + k * 3, none⟩ = some (.int .i64 xs[k].w) ∧ w.cell? ⟨b, off + k * 3 + 1, none⟩ = some (.int .i64 xs[k].e) ∧ w.cell? ⟨b, off + k * 3 + 2, none⟩ = some (.int .i64 xs[k].n)
theorem ColCells.below {w w1 : World} {A : Option Addr} {xs : List Col} (h : ColCells w A xs) (hb : Below w.heap.size w w1) : ColCells w1 A xs := by
  intro k hk
  obtain ⟨b, off, hA, hlt, h0, h1, h2⟩ := h k hk
  exact ⟨b, off, hA, Nat.lt_of_lt_of_le hlt hb.size, (hb.cell (p := ⟨b, _, none⟩) hlt).trans h0, (hb.cell (p := ⟨b, _, none⟩) hlt).trans h1, (hb.cell (p := ⟨b, _, none⟩) hlt).trans h2⟩
theorem OwnC.cols {w : World} {B n cx : Nat} {A : Option Addr} {xs : List Col} (h : OwnC w B (.slice A n cx) xs) : ColCells w A xs := by
  intro k hk
  have h0 := h
  obtain ⟨h1, h2⟩ := h
  rcases h2 with ⟨e1, e2⟩ | ⟨g, cap, cur, e1, e2, e3, _⟩
  · omega
  · injection e1 with a1 a2 a3
    subst a1 a2 a3
    have hc := fun j (hj : j < 3) => World.ownsRow.cellAt h0 (k * 3 + j) (by omega)
    have hg := fun j (hj : j < 3) => ccells_get xs k j hk hj
    have c0 := hc 0 (by omega)
    have c1 := hc 1 (by omega)
    have c2 := hc 2 (by omega)
    rw [hg 0 (by omega)] at c0
    rw [hg 1 (by omega)] at c1
    rw [hg 2 (by omega)] at c2
    simp only [Nat.add_zero, List.getElem?_cons_zero, List.getElem?_cons_succ] at c0 c1 c2
    exact ⟨g, 0, rfl, World.block_lt_of_cell? w _ c0, by rw [Nat.zero_add]; exact c0, by rw [Nat.zero_add]; exact c1, by rw [Nat.zero_add]; exact c2⟩
/-- block g holds a strip that is only read any more -/
def StripR (w : World) (g : Nat) (c : Int) (A : Option Addr) (n cx : Nat) (h words : Int) (xs : List Col) : Prop :=
  ∃ C cc, Blk w g [.int .i64 c, .slice A n cx, .int .i64 h, .int .i64 words, .slice C xs.length cc] 155 ∧ ColCells w C xs
theorem StripR.below {w w1 : World} {g : Nat} {c : Int} {A : Option Addr} {n cx : Nat} {h words : Int} {xs : List Col} (hs : StripR w g c A n cx h words xs) (hb : Below w.heap.size w w1) : StripR w1 g c A n cx h words xs := by
  obtain ⟨C, cc, h1, h2⟩ := hs
  exact ⟨C, cc, h1.under hb, h2.below hb⟩
theorem StripSt.read {w : World} {B g : Nat} {c : Int} {A : Option Addr} {n cx : Nat} {h words : Int} {xs : List Col} (hs : StripSt w B g c A n cx h words xs) : StripR w g c A n cx h words xs := by
  obtain ⟨v, h1, h2⟩ := hs
  obtain ⟨C, cc, rfl⟩ := h2.shape
  exact ⟨C, cc, h1, h2.cols⟩
def col0 : Col := ⟨0, 0, 0, 0⟩
def lev (c : Int) (ts : List T4) : Nat → List Col
  | 0 => [⟨-1, 0, 0, -1⟩]
  | i + 1 => (lev c ts i).flatMap (kids c ts (decide (i = 0)))
def upc (c : Int) (ts : List T4) (h : Nat) : Nat → List Col → List Col
  | 0, l => l
  | m + 1, l => upc c ts h m (l.flatMap (kids c ts (decide (m + 1 = h))))
theorem upc_dfs (c : Int) (ts : List T4) (h : Nat) : ∀ (m : Nat) (l : List Col), l.flatMap (dfs c ts h m) = upc c ts h m l
  | 0, l => by
    show l.flatMap (fun k => [k]) = l
    induction l with
    | nil => rfl
    | cons a l ih => simp
  | m + 1, l => by
    show l.flatMap (fun k => (kids c ts (decide (m + 1 = h)) k).flatMap (dfs c ts h m)) = upc c ts h m (l.flatMap (kids c ts (decide (m + 1 = h))))
    rw [← upc_dfs c ts h m, List.flatMap_assoc]
theorem upc_lev (c : Int) (ts : List T4) (h : Nat) : ∀ m, m < h → upc c ts h m (lev c ts (h - m)) = lev c ts h
  | 0, _ => rfl
  | m + 1, hm => by
    show upc c ts h m ((lev c ts (h - (m + 1))).flatMap (kids c ts (decide (m + 1 = h)))) = lev c ts h
    rw [← upc_lev c ts h m (by omega)]
    have e : h - m = (h - (m + 1)) + 1 := by omega
    rw [e]
    show _ = upc c ts h m ((lev c ts (h - (m + 1))).flatMap (kids c ts (decide (h - (m + 1) = 0))))
    rw [show decide (m + 1 = h) = decide (h - (m + 1) = 0) by congr 1; apply propext; constructor <;> intro _ <;> omega]
theorem dfs_lev (c : Int) (ts : List T4) (h : Nat) (hh : 1 ≤ h) : dfs c ts h h col0 = lev c ts h := by
  obtain ⟨m, rfl⟩ : ∃ m, h = m + 1 := ⟨h - 1, by omega⟩
  have e := upc_lev c ts (m + 1) m (by omega)
  rw [← e, show m + 1 - m = 1 by omega]
  show (kids c ts (decide (m + 1 = m + 1)) col0).flatMap (dfs c ts (m + 1) m) = upc c ts (m + 1) m (lev c ts 1)
  rw [← upc_dfs]
  congr 1
  show kids c ts (decide (m + 1 = m + 1)) col0 = [(⟨-1, 0, 0, -1⟩ : Col)].flatMap (kids c ts (decide (0 = 0)))
  have h1 : kid c true col0 = kid c true ⟨-1, 0, 0, -1⟩ := by funext t; simp [kid, col0]
  have h2 : fits true col0 = fits true ⟨-1, 0, 0, -1⟩ := by funext t; simp [fits]
  simp only [decide_true, List.flatMap_cons, List.flatMap_nil, List.append_nil, kids, h1, h2]
/-- the colours of all tiles are less than c -/
def InC (c : Int) (ts : List T4) : Prop := ∀ t ∈ ts, (0 ≤ t.a ∧ t.a < c) ∧ (0 ≤ t.b ∧ t.b < c) ∧ (0 ≤ t.c ∧ t.c < c) ∧ (0 ≤ t.d ∧ t.d < c)
theorem isSetB_inC {c : Int} {ts : List T4} (h : isSetB c ts = true) : InC c ts := by
  obtain ⟨h1, h2, h3⟩ := isSetB_parts h
  intro t ht
  obtain ⟨k, hk, rfl⟩ := List.getElem_of_mem ht
  have h4 := h1 k hk
  unfold okAt at h4
  simp only [Bool.and_eq_true] at h4
  have h5 := h4.1
  rw [getD_at hk] at h5
  have hw : wrap64 (c - 1) = c - 1 := by unfold wrap64; omega
  simp only [isTileB, T4.l, List.all_cons, List.all_nil, Bool.and_eq_true, inR_iff, hw] at h5
  omega
theorem mem_kids {c : Int} {ts : List T4} {f : Bool} {k x : Col} (h : x ∈ kids c ts f k) : ∃ t ∈ ts, fits f k t = true ∧ x = kid c f k t := by
  unfold kids at h
  rw [List.mem_map] at h
  obtain ⟨t, ht, rfl⟩ := h
  rw [List.mem_filter] at ht
  exact ⟨t, ht.1, ht.2, rfl⟩
theorem lev_codes {c : Int} {ts : List T4} (hc : 1 ≤ c) (hI : InC c ts) : ∀ i, ∀ x ∈ lev c ts i, (0 ≤ x.w ∧ x.w < c ^ i) ∧ (0 ≤ x.e ∧ x.e < c ^ i) ∧ (1 ≤ i → 0 ≤ x.n ∧ x.n < c)
  | 0, x, hx => by simp only [lev, List.mem_singleton] at hx; subst hx; simp
  | i + 1, x, hx => by
    have ih := lev_codes hc hI i
    simp only [lev, List.mem_flatMap] at hx
    obtain ⟨k, hk, hx⟩ := hx
    obtain ⟨t, ht, hf, rfl⟩ := mem_kids hx
    obtain ⟨⟨a1, a2⟩, ⟨b1, b2⟩, ⟨c1, c2⟩, _⟩ := hI t ht
    obtain ⟨⟨w1, w2⟩, ⟨e1, e2⟩, n1⟩ := ih k hk
    have p : c ^ (i + 1) = c ^ i * c := Int.pow_succ c i
    have q1 : (k.w + 1) * c ≤ c ^ i * c := Int.mul_le_mul_of_nonneg_right (by omega) (by omega)
    have q2 : (k.e + 1) * c ≤ c ^ i * c := Int.mul_le_mul_of_nonneg_right (by omega) (by omega)
    rw [Int.add_mul, Int.one_mul] at q1 q2
    have r1 : 0 ≤ k.w * c := Int.mul_nonneg w1 (by omega)
    have r2 : 0 ≤ k.e * c := Int.mul_nonneg e1 (by omega)
    simp only [kid]
    refine ⟨⟨by omega, by omega⟩, ⟨by omega, by omega⟩, fun _ => ?_⟩
    by_cases hi : i = 0
    · subst hi; simp; omega
    · simp only [hi, decide_false, Bool.false_eq_true, if_false]; exact n1 (by omega)
theorem lev_len (c : Int) (ts : List T4) : ∀ i, (lev c ts i).length ≤ ts.length ^ i
  | 0 => by simp [lev]
  | i + 1 => by
    have ih := lev_len c ts i
    have hf : ∀ l : List Col, (l.flatMap (kids c ts (decide (i = 0)))).length ≤ l.length * ts.length := by
      intro l
      induction l with
      | nil => simp
      | cons a l ih2 =>
        rw [List.flatMap_cons, List.length_append, List.length_cons, Nat.add_mul, Nat.one_mul]
        have : (kids c ts (decide (i = 0)) a).length ≤ ts.length := by unfold kids; rw [List.length_map]; exact List.length_filter_le ..
        omega
    refine Nat.le_trans (hf _) ?_
    rw [Nat.pow_succ]
    exact Nat.mul_le_mul_right _ ih
theorem pow16 {n h : Nat} (hn : n ≤ 16) (hh : h ≤ 3) : n ^ h ≤ 4096 :=
  Nat.le_trans (Nat.pow_le_pow_left hn h) (Nat.le_trans (Nat.pow_le_pow_right (by decide) hh) (by decide))
end Go.Proofs.YtkgnejhflnekaaaGreat
namespace Go.Proofs.YtkgnejhflnekaaaGreat
open Go.RowKit
def crow (k : Col) : List Int := [k.n, k.w, k.e, k.s]
def crows (l : List Col) : List (List Int) := l.map crow
theorem crows_len (l : List Col) : (crows l).length = l.length := by simp [crows]
theorem crows_append (l m : List Col) : crows (l ++ m) = crows l ++ crows m := by simp [crows]
theorem grown_dr {w W : World} {r : Option Nat} (h : w.grownBy W r) : w.grownBy W.drew r := ⟨h.os, h.tape, h.output, h.size, h.block⟩
theorem OwnII.lt {w : World} {B : Nat} {v : Value} {L : List (List Int)} (h : OwnII w B v L) : ∀ k, v.ownBlock = some k → B ≤ k ∧ k < w.heap.size := by
  obtain ⟨vs, h1, _⟩ := h
  exact fun k hk => World.ownsRow.lt h1 k hk
theorem OwnII.lit {w : World} {B g n : Nat} {cs : Array Value} {xs : List Int} (hg : w.heap.size = g) (hn : n = xs.length) (hc : cs.toList = ints xs) (hl : xs.length ≤ 1000000) (hB : B ≤ w.heap.size) :
    OwnII ((w.alloc (.cells cs 2)).alloc (.cells #[.slice (some ⟨g, 0, none⟩) n n] 35)) B (.slice (some ⟨g + 1, 0, none⟩) 1 1) [xs] := by
  subst hg hn
  refine ⟨[.slice (some ⟨w.heap.size, 0, none⟩) xs.length xs.length], ?_, fun i h h' => ?_, fun i j h h' hij => ?_, fun i h => ?_⟩
  · have := World.ownsRow_lit (base := B) (e := 35) (size := 1) (w.alloc (.cells cs 2)) #[.slice (some ⟨w.heap.size, 0, none⟩) xs.length xs.length] 1 (by simp; omega) (by simp [maxLen]) (by simp)
    simpa using this
  · have hi : i = 0 := by simp at h; omega
    subst hi
    exact (OwnI.made w B cs xs hc hB (by omega)).alloc _
  · simp at h h'; omega
  · have hi : i = 0 := by simp at h; omega
    subst hi
    exact Apart.blk (by omega)
end Go.Proofs.YtkgnejhflnekaaaGreat
namespace Go.Proofs.YtkgnejhflnekaaaGreat
open Go.RowKit
theorem infoB : (Tryz.prog.info? 4).map (fun i => (i.zero, i.size, i.bytes)) = some (some (.bool false), 1, 1) := by kernel_rfl
def bcells (xs : List Bool) : List Value := xs.map fun x => .bool x
theorem bcells_length (xs : List Bool) : (bcells xs).length = xs.length := by simp [bcells]
theorem bcells_set (xs : List Bool) (k : Nat) (x : Bool) : (bcells xs).set k (.bool x) = bcells (xs.set k x) := by simp [bcells, List.map_set]
/-- a slice of truth values that the call made and owns -/
def OwnB (w : World) (B : Nat) (v : Value) (xs : List Bool) : Prop := w.ownsRow B 4 1 v xs.length (bcells xs)
theorem OwnB.below {w w1 : World} {B : Nat} {v : Value} {xs : List Bool} (h : OwnB w B v xs) (hb : Below w.heap.size w w1) : OwnB w1 B v xs :=
  World.ownsRow.kept (row := none) h ⟨hb.os, hb.tape, hb.output, hb.size, fun k hk _ => hb.block k hk⟩ (by cases h : v.ownBlock with | none => exact .inl rfl | some k => exact .inr (by simp))
theorem OwnB.weaken {w : World} {B B' : Nat} {v : Value} {xs : List Bool} (h : OwnB w B v xs) (hB : B' ≤ B) : OwnB w B' v xs := by
  obtain ⟨h1, h2⟩ := h
  refine ⟨h1, ?_⟩
  rcases h2 with h2 | ⟨g, cap, cur, e1, e2, e3⟩
  · exact .inl h2
  · exact .inr ⟨g, cap, cur, e1, Nat.le_trans hB e2, e3⟩
theorem OwnB.shape {w : World} {B : Nat} {v : Value} {xs : List Bool} (h : OwnB w B v xs) : ∃ A cx, v = .slice A xs.length cx := by
  obtain ⟨h1, h2⟩ := h
  rcases h2 with ⟨rfl, h2⟩ | ⟨g, cap, cur, rfl, _⟩
  · exact ⟨none, 0, by rw [h2]⟩
  · exact ⟨_, _, rfl⟩
theorem OwnB.lt {w : World} {B : Nat} {v : Value} {xs : List Bool} (h : OwnB w B v xs) : ∀ k, v.ownBlock = some k → B ≤ k ∧ k < w.heap.size := fun k hk => World.ownsRow.lt h k hk
theorem OwnB.at_ {w : World} {B n cx : Nat} {A : Option Addr} {xs : List Bool} (h : OwnB w B (.slice A n cx) xs) (j : Nat) (hj : j < xs.length) :
    ∃ g, A = some ⟨g, 0, none⟩ ∧ B ≤ g ∧ g < w.heap.size ∧ w.cell? ⟨g, j, none⟩ = some (.bool xs[j]) ∧ w.frozen? ⟨g, j, none⟩ = false := by
  have h0 := h
  obtain ⟨h1, h2⟩ := h
  rcases h2 with ⟨e1, e2⟩ | ⟨g, cap, cur, e1, e2, e3, _⟩
  · omega
  · injection e1 with a1 a2 a3
    subst a1 a2 a3
    have hc := World.ownsRow.cellAt h0 j (by omega)
    refine ⟨g, rfl, e2, (Array.getElem?_eq_some_iff.1 e3).1, ?_, World.ownsRow.frozenAt h0 j⟩
    rw [hc]; simp [bcells, hj]
theorem OwnB.set {w : World} {B n cx g : Nat} {xs : List Bool} (h : OwnB w B (.slice (some ⟨g, 0, none⟩) n cx) xs) (j : Nat) (y : Bool) :
    OwnB (w.setCell ⟨g, j, none⟩ (.bool y)) B (.slice (some ⟨g, 0, none⟩) n cx) (xs.set j y) ∧ w.grownBy (w.setCell ⟨g, j, none⟩ (.bool y)) (some g) := by
  have h0 := h
  obtain ⟨h1, h2⟩ := h
  rcases h2 with ⟨e1, e2⟩ | ⟨g', cap, cur, e1, _⟩
  · cases e1
  · injection e1 with a1 a2 a3
    subst a2
    obtain ⟨s1, s2⟩ := World.ownsRow.stored h0 j (.bool y)
    refine ⟨?_, s2⟩
    unfold OwnB
    rw [bcells_set] at s1
    rw [List.length_set]
    exact s1
theorem OwnB.made (w : World) (B n : Nat) (hB : B ≤ w.heap.size) (hn : n ≤ 1000000000) :
    OwnB (w.alloc (.cells (madeCells #[.bool false] n) 4)) B (.slice (some ⟨w.heap.size, 0, none⟩) n n) (List.replicate n false) := by
  have hs : (madeCells #[Value.bool false] n).size = n * 1 := by simp [madeCells]
  have := World.ownsRow_lit (base := B) (e := 4) (size := 1) w (madeCells #[.bool false] n) n hB (by simp [maxLen]; omega) hs
  rw [toList_madeCells_one] at this
  unfold OwnB
  simpa [bcells] using this
theorem OwnB.grown {w w1 : World} {B : Nat} {v : Value} {xs : List Bool} {row : Option Nat} (h : OwnB w B v xs) (hg : w.grownBy w1 row) (hne : v.ownBlock = none ∨ v.ownBlock ≠ row) : OwnB w1 B v xs := World.ownsRow.kept h hg hne
theorem make_b (n : Nat) (h : n ≤ 1000000000) (w : World) : (Instr.makeSlice 96 (.int .i64 (n : Int)) (.int .i64 (n : Int))).run Tryz.prog w = .ok (.slice (some ⟨w.heap.size, 0, none⟩) n n) (w.alloc (.cells (madeCells #[.bool false] n) 4)) := by
  have := make_k (P := Tryz.prog) 96 4 _ 1 1 Tryz.underlying96 infoB n (by omega) (by omega) w
  rw [Nat.mul_one] at this
  exact this
/-- truth values read as a list -/
def BoolC (w : World) (A : Option Addr) (xs : List Bool) : Prop := ∀ j (h : j < xs.length), ∃ b off, A = some ⟨b, off, none⟩ ∧ b < w.heap.size ∧ w.cell? ⟨b, off + j, none⟩ = some (.bool xs[j])
theorem BoolC.below {w w1 : World} {A : Option Addr} {xs : List Bool} (h : BoolC w A xs) (hb : Below w.heap.size w w1) : BoolC w1 A xs := by
  intro j hj
  obtain ⟨b, off, e, hlt, hc⟩ := h j hj
  exact ⟨b, off, e, Nat.lt_of_lt_of_le hlt hb.size, (hb.cell (p := ⟨b, _, none⟩) hlt).trans hc⟩
theorem OwnB.read {w : World} {B n cx : Nat} {A : Option Addr} {xs : List Bool} (h : OwnB w B (.slice A n cx) xs) : BoolC w A xs := by
  intro j hj
  obtain ⟨g, rfl, _, hlt, hc, _⟩ := h.at_ j hj
  exact ⟨g, 0, rfl, hlt, by rw [Nat.zero_add]; exact hc⟩
end Go.Proofs.YtkgnejhflnekaaaGreat
namespace Go.Proofs.YtkgnejhflnekaaaGreat
open Go.RowKit
theorem infoSlB : (Tryz.prog.info? 96).map (fun i => (i.zero, i.size, i.bytes)) = some (some (.slice none 0 0), 1, 24) := by kernel_rfl
theorem ownB_apart {w1 w2 : World} {B : Nat} {v u : Value} {xs ys : List Bool} (hv : OwnB w1 B v xs) (hu : OwnB w2 w1.heap.size u ys) : (v.ownBlock = none ∨ v.ownBlock ≠ u.ownBlock) ∧ (u.ownBlock = none ∨ u.ownBlock ≠ v.ownBlock) := by
  cases e1 : v.ownBlock with
  | none => exact ⟨.inl rfl, by cases e2 : u.ownBlock with | none => exact .inl rfl | some k => exact .inr (by simp)⟩
  | some j =>
    cases e2 : u.ownBlock with
    | none => exact ⟨.inr (by simp), .inl rfl⟩
    | some k =>
      have h1 := (World.ownsRow.lt hv j e1).2
      have h2 := (World.ownsRow.lt hu k e2).1
      exact ⟨.inr (by simp; omega), .inr (by simp; omega)⟩
def RowsB (w : World) (B : Option Addr) (L : List (List Bool)) : Prop :=
  ∀ k (h : k < L.length), ∃ b off A cx, B = some ⟨b, off, none⟩ ∧ b < w.heap.size ∧ w.cell? ⟨b, off + k, none⟩ = some (.slice A L[k].length cx) ∧ BoolC w A L[k]
theorem RowsB.below {w w1 : World} {B : Option Addr} {L : List (List Bool)} (h : RowsB w B L) (hb : Below w.heap.size w w1) : RowsB w1 B L := by
  intro k hk
  obtain ⟨b, off, A, cx, e, hlt, hc, hr⟩ := h k hk
  exact ⟨b, off, A, cx, e, Nat.lt_of_lt_of_le hlt hb.size, (hb.cell (p := ⟨b, _, none⟩) hlt).trans hc, hr.below hb⟩
def OwnBB (w : World) (B : Nat) (v : Value) (L : List (List Bool)) : Prop :=
  ∃ vs : List Value, w.ownsRow B 96 1 v L.length vs ∧ (∀ i (h : i < vs.length) (h' : i < L.length), OwnB w B vs[i] L[i]) ∧
    (∀ i j (h : i < vs.length) (h' : j < vs.length), i ≠ j → Apart vs[i] vs[j]) ∧ ∀ i (h : i < vs.length), Apart vs[i] v
theorem OwnBB.rows {w : World} {B : Nat} {v : Value} {L : List (List Bool)} (h : OwnBB w B v L) : ∃ A cx, v = .slice A L.length cx ∧ RowsB w A L := by
  obtain ⟨vs, h1, h2, _⟩ := h
  have hl : vs.length = L.length := by have := h1.1; omega
  obtain ⟨_, h3⟩ := h1
  rcases h3 with ⟨rfl, h3⟩ | ⟨g, cap, cur, rfl, e2, e3, e4, e5, e6, e7⟩
  · exact ⟨none, 0, by rw [h3], fun k hk => by omega⟩
  · refine ⟨some ⟨g, 0, none⟩, cap, rfl, fun k hk => ?_⟩
    obtain ⟨A, cx, e⟩ := (h2 k (by omega) hk).shape
    have hc : BoolC w A L[k] := by have h8 := h2 k (by omega) hk; rw [e] at h8; exact h8.read
    refine ⟨g, 0, A, cx, rfl, (Array.getElem?_eq_some_iff.1 e3).1, ?_, hc⟩
    rw [Nat.zero_add]
    unfold World.cell?
    simp only [e3]
    have hk2 : k < vs.length := by omega
    have h9 : (cur.toList.take (L.length * 1))[k]? = some (vs[k]'hk2) := by rw [e7]; exact List.getElem?_eq_getElem hk2
    rw [List.getElem?_take] at h9
    simp [hk] at h9
    simp [h9, e]
theorem OwnBB.kept {w w' : World} {B : Nat} {v : Value} {L : List (List Bool)} {row : Option Nat} (h : OwnBB w B v L) (hg : w.grownBy w' row) (hr : ∀ k, row = some k → k < B) : OwnBB w' B v L := by
  obtain ⟨vs, h1, h2, h3, h4⟩ := h
  have ne : ∀ (u : Value) (n : Nat) (xs : List Value) (e : TypeId) (s : Nat), w.ownsRow B e s u n xs → u.ownBlock = none ∨ u.ownBlock ≠ row := fun u n xs e s ho => by
    cases eu : u.ownBlock with
    | none => exact .inl rfl
    | some k =>
      right
      have := (World.ownsRow.lt ho k eu).1
      intro e2
      have := hr k e2.symm
      omega
  exact ⟨vs, World.ownsRow.kept h1 hg (ne _ _ _ _ _ h1), fun i hi hi' => World.ownsRow.kept (h2 i hi hi') hg (ne _ _ _ _ _ (h2 i hi hi')), h3, h4⟩
theorem OwnBB.below {w w1 : World} {B : Nat} {v : Value} {L : List (List Bool)} (h : OwnBB w B v L) (hb : Below w.heap.size w w1) : OwnBB w1 B v L := by
  obtain ⟨vs, h1, h2, h3, h4⟩ := h
  refine ⟨vs, ?_, fun i hi hi' => (h2 i hi hi').below hb, h3, h4⟩
  exact World.ownsRow.kept (row := none) h1 ⟨hb.os, hb.tape, hb.output, hb.size, fun k hk _ => hb.block k hk⟩ (by cases h : v.ownBlock with | none => exact .inl rfl | some k => exact .inr (by simp))
theorem OwnBB.weaken {w : World} {B B' : Nat} {v : Value} {L : List (List Bool)} (h : OwnBB w B v L) (hB : B' ≤ B) : OwnBB w B' v L := by
  obtain ⟨vs, ⟨a1, a2⟩, h2, h3, h4⟩ := h
  refine ⟨vs, ⟨a1, ?_⟩, fun i hi hi' => (h2 i hi hi').weaken hB, h3, h4⟩
  rcases a2 with a2 | ⟨g, cap, cur, e1, e2, e3⟩
  · exact .inl a2
  · exact .inr ⟨g, cap, cur, e1, Nat.le_trans hB e2, e3⟩
theorem OwnBB.empty {w : World} {B g : Nat} (hg : w.heap.size = g) (hB : B ≤ w.heap.size) : OwnBB (w.alloc (.cells #[] 96)) B (.slice (some ⟨g, 0, none⟩) 0 0) [] := by
  subst hg
  exact ⟨[], World.ownsRow_lit (base := B) (e := 96) (size := 1) w #[] 0 hB (by simp [maxLen]) (by simp), fun i h => by simp at h, fun i j h => by simp at h, fun i h => by simp at h⟩
theorem OwnBB.lt {w : World} {B : Nat} {v : Value} {L : List (List Bool)} (h : OwnBB w B v L) : ∀ k, v.ownBlock = some k → B ≤ k ∧ k < w.heap.size := by
  obtain ⟨vs, h1, _⟩ := h
  exact fun k hk => World.ownsRow.lt h1 k hk
theorem app_rowB {o : Oper} {a : Act} {W0 W : World} {K : Act → World → Prop} {Q : Exit → Act → World → Prop} (s x : Operand)
    (ho : o.op = .call { callee := .builtin .append, args := #[s, x], argTypes := #[145, 145] }) (B : Nat) (v : Value) (L : List (List Bool)) (u : Value) (xs : List Bool) (hs : a.eval s = v) (hown : OwnBB W0 B v L)
    (hW : Below W0.heap.size W0 W) (hu : OwnB W W0.heap.size u xs)
    (b off : Nat) (hx : a.eval x = .slice (some ⟨b, off, none⟩) 1 1) (hc : W.cell? ⟨b, off, none⟩ = some u) (hl : L.length ≤ 1000000000000) (hB : B ≤ W0.heap.size)
    (h : ∀ v' w', OwnBB w' B v' (L ++ [xs]) → W.grownBy w' v.ownBlock → (∀ k, v.ownBlock = some k → B ≤ k) → K (a.put o.dst v') w') : o.wp Tryz.prog a W K Q := by
  obtain ⟨vs, g1, g2, h3, h4⟩ := hown
  have h1 : W.ownsRow B 96 1 v L.length vs := World.ownsRow.kept (row := none) g1 ⟨hW.os, hW.tape, hW.output, hW.size, fun k hk _ => hW.block k hk⟩ (by cases h : v.ownBlock with | none => exact .inl rfl | some k => exact .inr (by simp))
  have h2 : ∀ i (h : i < vs.length) (h' : i < L.length), OwnB W B vs[i] L[i] := fun i h h' => (g2 i h h').below hW
  have hvl : vs.length = L.length := by have := h1.1; omega
  refine app_gen s x 145 96 (.slice none 0 0) 1 24 ho Tryz.underlying145 infoSlB rfl (by decide) B v L.length vs hs h1 ⟨b, off, none⟩ 1 1 [u] hx rfl ?_ ?_ ?_ ?_ (Nat.le_trans hB hW.size) ?_
  · intro j z hj
    cases j with
    | zero => simp at hj; subst hj; simpa [Addr.add] using hc
    | succ j => simp at hj
  · intro z hz
    simp at hz; subst hz
    obtain ⟨A, cx, rfl⟩ := hu.shape
    rfl
  · simp [maxLen]; omega
  · omega
  · intro v' w' k1 k2 k3
    have hvb := World.ownsRow.lt h1
    have hub := World.ownsRow.lt hu
    have hvb0 : ∀ k, v.ownBlock = some k → k < W0.heap.size := fun k hk => (World.ownsRow.lt g1 k hk).2
    have huv : Apart u v := by
      cases eu : u.ownBlock with
      | none => exact .inl eu
      | some k =>
        right; rw [eu]; intro e
        have := (hub k eu).1
        have := hvb0 k e.symm
        omega
    refine h v' w' ⟨vs ++ [u], by rw [List.length_append]; exact k1, fun i hi hi' => ?_, fun i j hi hj hij => ?_, fun i hi => ?_⟩ k2 (fun k hk => (hvb k hk).1)
    · by_cases e : i < vs.length
      · have e' : i < L.length := by omega
        rw [List.getElem_append_left e, List.getElem_append_left e']
        exact (h2 i e e').grown k2 (h4 i e)
      · have ei : i = vs.length := by simp at hi; omega
        subst ei
        rw [List.getElem_append_right (Nat.le_refl _), List.getElem_append_right (by omega)]
        simp only [Nat.sub_self, List.getElem_cons_zero, hvl]
        exact (hu.weaken hB).grown k2 huv
    · have far : ∀ q (hq : q < vs.length), Apart vs[q] u := fun q hq => (ownB_apart (g2 q hq (by omega)) hu).1
      by_cases e : i < vs.length
      · by_cases e2 : j < vs.length
        · rw [List.getElem_append_left e, List.getElem_append_left e2]; exact h3 i j e e2 hij
        · rw [List.getElem_append_left e, List.getElem_append_right (by omega)]
          simp only [show j - vs.length = 0 by simp at hj; omega, List.getElem_cons_zero]
          exact far i e
      · have e2 : j < vs.length := by simp at hi hj; omega
        rw [List.getElem_append_left e2, List.getElem_append_right (by omega)]
        simp only [show i - vs.length = 0 by simp at hi; omega, List.getElem_cons_zero]
        exact (far j e2).symm
    · by_cases e : i < vs.length
      · rw [List.getElem_append_left e]
        exact ((h4 i e).symm.app (fun k hk => ((h2 i e (by omega)).lt k hk).2) k3).symm
      · rw [List.getElem_append_right (by omega)]
        simp only [show i - vs.length = 0 by simp at hi; omega, List.getElem_cons_zero]
        exact (huv.symm.app (fun k hk => (hu.lt k hk).2) k3).symm
theorem wpl_app_rowB {ops : Array Oper} {rest : List Oper} {o : Oper} {a : Act} {W0 W : World} {Q : Exit → Act → World → Prop} (hgd : o.guard = none) (s x : Operand)
    (ho : o.op = .call { callee := .builtin .append, args := #[s, x], argTypes := #[145, 145] }) (B : Nat) (v : Value) (L : List (List Bool)) (u : Value) (xs : List Bool) (hs : a.eval s = v) (hown : OwnBB W0 B v L)
    (hW : Below W0.heap.size W0 W) (hu : OwnB W W0.heap.size u xs)
    (b off : Nat) (hx : a.eval x = .slice (some ⟨b, off, none⟩) 1 1) (hc : W.cell? ⟨b, off, none⟩ = some u) (hl : L.length ≤ 1000000000000) (hB : B ≤ W0.heap.size)
    (h : ∀ v' w', OwnBB w' B v' (L ++ [xs]) → W.grownBy w' v.ownBlock → (∀ k, v.ownBlock = some k → B ≤ k) → wpList Tryz.prog ops Q rest (a.put o.dst v') w') : wpList Tryz.prog ops Q (o :: rest) a W :=
  wpList_plain hgd fun _ hK => app_rowB s x ho B v L u xs hs hown hW hu b off hx hc hl hB fun v' w' h1 h2 h3 => hK _ _ (h v' w' h1 h2 h3)

end Go.Proofs.YtkgnejhflnekaaaGreat
