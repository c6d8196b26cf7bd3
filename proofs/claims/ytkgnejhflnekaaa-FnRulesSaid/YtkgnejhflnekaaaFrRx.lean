/- Contracts and lemmas for the statements of this seat, written for this claim; each theorem states its own conditions. -/
import Derived.BigQuiet
import Derived.Laws.BitsLemmas
import Derived.Test.YtkgnejhflnekaaaFrRv
import Derived.Test.YtkgnejhflnekaaaFrRz
import Derived.Test.YtkgnejhflnekaaaFrSe
set_option linter.unusedVariables false
set_option linter.unusedSimpArgs false
namespace Go.Proofs.Ytkgnejhflnekaaa
open Go.RowKit
theorem ret_bc3 {a b : Bool} {c d : Int} (h : a = b) (h' : c = d) : Ending.returned (.tuple #[.bool a, .int .i64 c]) = .returned (.tuple #[.bool b, .int .i64 d]) := by rw [h, h']
def ruleV (c : Int) (ts : List T4) (L : List (List Int)) : Bool := isSetB c ts && areBlocksB ts.length L && ruleB ts L
set_option maxRecDepth 100000 in
set_option maxHeartbeats 1000000 in
theorem implIsRule_c (c : Int) (ts : List T4) (A : Option Addr) (cx : Nat) (L : List (List Int)) (B : Option Addr) (cr : Nat) (w : World) (hT : TileCells w A ts) (hl : ts.length ≤ 1000000000) (hR : RowsC w B L) (hn : L.length ≤ 1000000000) (hS : Short 1000000000 L) (hK : CapsC w B L) :
    Calls Try.prog 9 #[.agg #[.int .i64 c, .slice A ts.length cx], .slice B L.length cr] w fun e w' => e = .returned (.tuple #[.bool (ruleV c ts L), .int .i64 (codeB (isSetB c ts) (areBlocksB ts.length L))]) ∧ Below w.heap.size w w' := by
  have HC := Lib.hid (fun (wq : World) (hq : Below w.heap.size w wq) => blocksCode_c c ts A cx L B cr 31 #[] true wq (fun _ _ => rfl) (hT.below hq) hl (hR.below hq) hn hS (fun _ _ w1 _ => always_c w1))
  rw [Bool.and_true] at HC
  have HQ := Lib.hid (fun (wq : World) (hq : Below w.heap.size w wq) (h : ts.length ≤ 1000000) (hB : Blocks ts.length L) => isRule_c c ts A cx L B cr wq (hT.below hq) h (hR.below hq) (hK.below hR hq) hB)
  have HV : Hid (ruleV c ts L = (isSetB c ts && areBlocksB ts.length L && ruleB ts L)) := rfl
  have HB := Lib.hid (areBlocksB_iff (n := ts.length) (L := L))
  have HS16 := Lib.hid (isSetB_small (c := c) (ts := ts))
  clear hT hR
  generalize isSetB c ts = s at *
  generalize areBlocksB ts.length L = a at *
  cases s
  · have HF := Lib.hid HV.out
    go_enter Try.func9, Try.ntmps9
    go_wp2_with fail
    refine (HC.out _ (by (repeat (first | (with_reducible exact Below.refl _ _) | (with_reducible assumption) | (with_reducible refine below_al ?_) | (with_reducible refine below_dr ?_) | (with_reducible refine below_drN ?_) | (with_reducible refine below_set ?_ (by first | exact Nat.le_refl _ | (dsimp only; omega) | omega)) | (with_reducible refine below_tr (by with_reducible assumption) ?_))))).mono ?_
    rintro e w1 ⟨rfl, hb1⟩
    have Hw1 : Hid (Below w.heap.size w w1) := by (show Below _ _ _); (repeat (first | (with_reducible exact Below.refl _ _) | (with_reducible assumption) | (with_reducible refine below_al ?_) | (with_reducible refine below_dr ?_) | (with_reducible refine below_drN ?_) | (with_reducible refine below_set ?_ (by first | exact Nat.le_refl _ | (dsimp only; omega) | omega)) | (with_reducible refine below_tr (by with_reducible assumption) ?_)))
    obtain ⟨hc1, hf1⟩ := bcell hb1
    clear hb1
    go_wp2
    go_ret2
    exact ⟨ret_bc3 HF.out.symm rfl, Hw1.out⟩
  · cases a
    · have HF := Lib.hid HV.out
      go_enter Try.func9, Try.ntmps9
      go_wp2_with fail
      refine (HC.out _ (by (repeat (first | (with_reducible exact Below.refl _ _) | (with_reducible assumption) | (with_reducible refine below_al ?_) | (with_reducible refine below_dr ?_) | (with_reducible refine below_drN ?_) | (with_reducible refine below_set ?_ (by first | exact Nat.le_refl _ | (dsimp only; omega) | omega)) | (with_reducible refine below_tr (by with_reducible assumption) ?_))))).mono ?_
      rintro e w1 ⟨rfl, hb1⟩
      have Hw1 : Hid (Below w.heap.size w w1) := by (show Below _ _ _); (repeat (first | (with_reducible exact Below.refl _ _) | (with_reducible assumption) | (with_reducible refine below_al ?_) | (with_reducible refine below_dr ?_) | (with_reducible refine below_drN ?_) | (with_reducible refine below_set ?_ (by first | exact Nat.le_refl _ | (dsimp only; omega) | omega)) | (with_reducible refine below_tr (by with_reducible assumption) ?_)))
      obtain ⟨hc1, hf1⟩ := bcell hb1
      clear hb1
      go_wp2
      go_ret2
      exact ⟨ret_bc3 HF.out.symm rfl, Hw1.out⟩
    · have HV2 : Hid (ruleV c ts L = ruleB ts L) := HV.out
      have HQ2 := Lib.hid (fun wq hq => HQ.out wq hq (by have := (HS16.out rfl).2; omega) (HB.out rfl))
      rw [show codeB true true = 0 from rfl] at HC ⊢
      go_enter Try.func9, Try.ntmps9
      go_wp2_with fail
      refine (HC.out _ (by (repeat (first | (with_reducible exact Below.refl _ _) | (with_reducible assumption) | (with_reducible refine below_al ?_) | (with_reducible refine below_dr ?_) | (with_reducible refine below_drN ?_) | (with_reducible refine below_set ?_ (by first | exact Nat.le_refl _ | (dsimp only; omega) | omega)) | (with_reducible refine below_tr (by with_reducible assumption) ?_))))).mono ?_
      rintro e w1 ⟨rfl, hb1⟩
      have Hw1 : Hid (Below w.heap.size w w1) := by (show Below _ _ _); (repeat (first | (with_reducible exact Below.refl _ _) | (with_reducible assumption) | (with_reducible refine below_al ?_) | (with_reducible refine below_dr ?_) | (with_reducible refine below_drN ?_) | (with_reducible refine below_set ?_ (by first | exact Nat.le_refl _ | (dsimp only; omega) | omega)) | (with_reducible refine below_tr (by with_reducible assumption) ?_)))
      obtain ⟨hc1, hf1⟩ := bcell hb1
      clear hb1
      go_wp2_with fail
      refine (HQ2.out _ Hw1.out).mono ?_
      rintro e w2 ⟨rfl, hb2⟩
      go_wp2
      go_ret2
      exact ⟨ret_bc3 HV2.out.symm rfl, Hw1.out.trans (hb2.mono Hw1.out.size)⟩
set_option maxRecDepth 100000 in
set_option maxHeartbeats 1000000 in
theorem specIsRule_c (c : Int) (ts : List T4) (A : Option Addr) (cx : Nat) (L : List (List Int)) (B : Option Addr) (cr : Nat) (w : World) (hT : TileCells w A ts) (hl : ts.length ≤ 1000000000) (hR : RowsC w B L) (hn : L.length ≤ 1000000000) (hS : Short 1000000000 L)  :
    Calls Try.prog 14 #[.agg #[.int .i64 c, .slice A ts.length cx], .slice B L.length cr] w fun e w' => e = .returned (.tuple #[.bool (ruleV c ts L), .int .i64 (codeB (isSetB c ts) (areBlocksB ts.length L))]) ∧ Below w.heap.size w w' := by
  have HC := Lib.hid (fun (wq : World) (hq : Below w.heap.size w wq) => l09Code_c c ts A cx L B cr wq (hT.below hq) hl (hR.below hq) hn hS)
  skip
  have HQ := Lib.hid (fun (wq : World) (hq : Below w.heap.size w wq) (h : ts.length ≤ 1000000) (hB : Blocks ts.length L) => l09Rule_c c ts A cx L B cr wq (hT.below hq) h (hR.below hq) hB)
  have HV : Hid (ruleV c ts L = (isSetB c ts && areBlocksB ts.length L && ruleB ts L)) := rfl
  have HB := Lib.hid (areBlocksB_iff (n := ts.length) (L := L))
  have HS16 := Lib.hid (isSetB_small (c := c) (ts := ts))
  clear hT hR
  generalize isSetB c ts = s at *
  generalize areBlocksB ts.length L = a at *
  cases s
  · have HF := Lib.hid HV.out
    go_enter Try.func14, Try.ntmps14
    go_wp2_with fail
    refine (HC.out _ (by (repeat (first | (with_reducible exact Below.refl _ _) | (with_reducible assumption) | (with_reducible refine below_al ?_) | (with_reducible refine below_dr ?_) | (with_reducible refine below_drN ?_) | (with_reducible refine below_set ?_ (by first | exact Nat.le_refl _ | (dsimp only; omega) | omega)) | (with_reducible refine below_tr (by with_reducible assumption) ?_))))).mono ?_
    rintro e w1 ⟨rfl, hb1⟩
    have Hw1 : Hid (Below w.heap.size w w1) := by (show Below _ _ _); (repeat (first | (with_reducible exact Below.refl _ _) | (with_reducible assumption) | (with_reducible refine below_al ?_) | (with_reducible refine below_dr ?_) | (with_reducible refine below_drN ?_) | (with_reducible refine below_set ?_ (by first | exact Nat.le_refl _ | (dsimp only; omega) | omega)) | (with_reducible refine below_tr (by with_reducible assumption) ?_)))
    obtain ⟨hc1, hf1⟩ := bcell hb1
    clear hb1
    go_wp2
    go_ret2
    exact ⟨ret_bc3 HF.out.symm rfl, Hw1.out⟩
  · cases a
    · have HF := Lib.hid HV.out
      go_enter Try.func14, Try.ntmps14
      go_wp2_with fail
      refine (HC.out _ (by (repeat (first | (with_reducible exact Below.refl _ _) | (with_reducible assumption) | (with_reducible refine below_al ?_) | (with_reducible refine below_dr ?_) | (with_reducible refine below_drN ?_) | (with_reducible refine below_set ?_ (by first | exact Nat.le_refl _ | (dsimp only; omega) | omega)) | (with_reducible refine below_tr (by with_reducible assumption) ?_))))).mono ?_
      rintro e w1 ⟨rfl, hb1⟩
      have Hw1 : Hid (Below w.heap.size w w1) := by (show Below _ _ _); (repeat (first | (with_reducible exact Below.refl _ _) | (with_reducible assumption) | (with_reducible refine below_al ?_) | (with_reducible refine below_dr ?_) | (with_reducible refine below_drN ?_) | (with_reducible refine below_set ?_ (by first | exact Nat.le_refl _ | (dsimp only; omega) | omega)) | (with_reducible refine below_tr (by with_reducible assumption) ?_)))
      obtain ⟨hc1, hf1⟩ := bcell hb1
      clear hb1
      go_wp2
      go_ret2
      exact ⟨ret_bc3 HF.out.symm rfl, Hw1.out⟩
    · have HV2 : Hid (ruleV c ts L = ruleB ts L) := HV.out
      have HQ2 := Lib.hid (fun wq hq => HQ.out wq hq (by have := (HS16.out rfl).2; omega) (HB.out rfl))
      rw [show codeB true true = 0 from rfl] at HC ⊢
      go_enter Try.func14, Try.ntmps14
      go_wp2_with fail
      refine (HC.out _ (by (repeat (first | (with_reducible exact Below.refl _ _) | (with_reducible assumption) | (with_reducible refine below_al ?_) | (with_reducible refine below_dr ?_) | (with_reducible refine below_drN ?_) | (with_reducible refine below_set ?_ (by first | exact Nat.le_refl _ | (dsimp only; omega) | omega)) | (with_reducible refine below_tr (by with_reducible assumption) ?_))))).mono ?_
      rintro e w1 ⟨rfl, hb1⟩
      have Hw1 : Hid (Below w.heap.size w w1) := by (show Below _ _ _); (repeat (first | (with_reducible exact Below.refl _ _) | (with_reducible assumption) | (with_reducible refine below_al ?_) | (with_reducible refine below_dr ?_) | (with_reducible refine below_drN ?_) | (with_reducible refine below_set ?_ (by first | exact Nat.le_refl _ | (dsimp only; omega) | omega)) | (with_reducible refine below_tr (by with_reducible assumption) ?_)))
      obtain ⟨hc1, hf1⟩ := bcell hb1
      clear hb1
      go_wp2_with fail
      refine (HQ2.out _ Hw1.out).mono ?_
      rintro e w2 ⟨rfl, hb2⟩
      go_wp2
      go_ret2
      exact ⟨ret_bc3 HV2.out.symm rfl, Hw1.out.trans (hb2.mono Hw1.out.size)⟩

end Go.Proofs.Ytkgnejhflnekaaa
namespace Go.Proofs.Ytkgnejhflnekaaa
open Go.RowKit
attribute [local go_sem] addUpon_value addUpon_skip addUpon_enter
/-- a slice of bytes reads as a list -/
def BytesC (w : World) (A : Option Addr) (xs : List Int) : Prop :=
  ∀ j (h : j < xs.length), ∃ b off, A = some ⟨b, off, none⟩ ∧ w.cell? ⟨b, off + j, none⟩ = some (.int .u8 xs[j])
theorem BytesC.below {w w1 : World} {A : Option Addr} {xs : List Int} (h : BytesC w A xs) (hb : Below w.heap.size w w1) : BytesC w1 A xs := by
  intro j hj
  obtain ⟨b, off, hA, hc⟩ := h j hj
  exact ⟨b, off, hA, (hb.cell (p := ⟨b, _, none⟩) (World.block_lt_of_cell? w _ hc)).trans hc⟩
def BytesOk (xs : List Int) : Prop := xs.length ≤ 4096 ∧ ∀ x ∈ xs, 0 ≤ x ∧ x < 256
theorem BytesOk.at {xs : List Int} (h : BytesOk xs) (j : Nat) (hj : j < xs.length) : 0 ≤ xs[j] ∧ xs[j] < 256 := h.2 _ (List.getElem_mem hj)
/-- block g holds a source of draws over a code -/
def Src (w : World) (g : Nat) (code : List Int) : Prop :=
  BytesOk code ∧ ∃ A cx, ∃ i : Nat, ∃ x : Int, i ≤ code.length ∧ Blk w g [.slice A code.length cx, .int .i64 i, .int .u64 x] 74 ∧
    ∀ j (h : j < code.length), ∃ b off, A = some ⟨b, off, none⟩ ∧ b < g ∧ w.cell? ⟨b, off + j, none⟩ = some (.int .u8 code[j])
theorem Src.lt {w : World} {g : Nat} {code : List Int} (h : Src w g code) : g < w.heap.size := by
  obtain ⟨_, A, cx, i, x, _, hB, _⟩ := h
  exact hB.lt
theorem Src.move {w w1 : World} {g : Nat} {code : List Int} (h : Src w g code) (hk : ∀ k, k ≤ g → w1.heap[k]? = w.heap[k]?) : Src w1 g code := by
  obtain ⟨h0, A, cx, i, x, hi, hB, hC⟩ := h
  refine ⟨h0, A, cx, i, x, hi, (hk g (Nat.le_refl _)).trans hB, fun j hj => ?_⟩
  obtain ⟨b, off, hA, hlt, hc⟩ := hC j hj
  exact ⟨b, off, hA, hlt, (World.cell?_of_block (a := ⟨b, _, none⟩) (hk b (by omega))).trans hc⟩
theorem Src.below {w w1 : World} {g : Nat} {code : List Int} (h : Src w g code) (hb : Below w.heap.size w w1) : Src w1 g code :=
  h.move fun k hk => hb.block k (Nat.lt_of_le_of_lt hk h.lt)
theorem Src.alloc {w : World} {g : Nat} {code : List Int} (h : Src w g code) (o : Obj) : Src (w.alloc o) g code := h.below ((Below.refl _ _).alloc (Nat.le_refl _) o)
theorem Src.drew {w : World} {g : Nat} {code : List Int} (h : Src w g code) : Src w.drew g code := h.below (Below.refl _ _).drew
/-- another row's change leaves a source as it is -/
theorem Src.grown {w w1 : World} {g k : Nat} {code : List Int} (h : Src w g code) (hg : w.grownBy w1 (some k)) (hk : g < k) : Src w1 g code :=
  h.move fun j hj => hg.block j (Nat.lt_of_le_of_lt hj h.lt) (by intro e; injection e with e; omega)
theorem grown_set {w W : World} {g j : Nat} {v : Value} (h : w.grownBy W (some g)) : w.grownBy (W.setCell ⟨g, j, none⟩ v) (some g) :=
  h.trans ⟨rfl, rfl, rfl, by simp [World.setCell], fun k _ hne => Below.heap_setCell W ⟨g, j, none⟩ v k (fun e => hne (by rw [e]))⟩
theorem grown_drew {w W : World} {r : Option Nat} (h : w.grownBy W r) : w.grownBy W.drew r := ⟨h.os, h.tape, h.output, h.size, h.block⟩
theorem grown_below {w W : World} (h : Below w.heap.size w W) (r : Option Nat) : w.grownBy W r := ⟨h.os, h.tape, h.output, h.size, fun k hk _ => h.block k hk⟩
theorem below_src {w W w1 : World} {g : Nat} (h : Below w.heap.size w W) (hg : W.grownBy w1 (some g)) (hlt : w.heap.size ≤ g) : Below w.heap.size w w1 :=
  h.grown hg h.size (fun k hk => by injection hk with hk; omega)
def Drawn (w : World) (g : Nat) (code : List Int) (n : Int) (e : Ending) (w' : World) : Prop :=
  ∃ r : Int, e = .returned (.int .i64 r) ∧ 0 ≤ r ∧ (n < 1 → r = 0) ∧ (1 ≤ n → r < n) ∧ Src w' g code ∧ w.grownBy w' (some g)
theorem u64_lo (x : Int) : 0 ≤ IntKind.u64.wrap x ∧ IntKind.u64.wrap x < 18446744073709551616 := by
  rw [show IntKind.u64.wrap x = x % 18446744073709551616 by simp [IntKind.wrap, IntKind.bits, IntKind.signed]]
  omega
theorem drawn_bits (x : Int) : 0 ≤ bits .and .u64 (IntKind.u64.wrap x / 8589934592) 16777215 ∧ bits .and .u64 (IntKind.u64.wrap x / 8589934592) 16777215 ≤ 16777215 := by
  have h := u64_lo x
  have e := bits_mask .u64 32 (by decide) (fun n h0 h1 => by rw [show IntKind.u64.wrap n = n % 18446744073709551616 by simp [IntKind.wrap, IntKind.bits, IntKind.signed]]; omega) 24 (by decide) (IntKind.u64.wrap x / 8589934592) (by omega) (by omega)
  rw [show (16777215 : Int) = 2 ^ 24 - 1 by decide, e]
  omega
theorem drawn_ret {g : Nat} {code : List Int} {n z : Int} {w w' : World} (hn : 1 ≤ n) (hz : 0 ≤ z) (h : Src w' g code) (hg : w.grownBy w' (some g)) : Drawn w g code n (.returned (.int .i64 (z.tmod n))) w' := by
  refine ⟨_, rfl, ?_, fun h => by omega, fun _ => ?_, h, hg⟩
  · rw [Int.tmod_eq_emod_of_nonneg hz]; exact Int.emod_nonneg _ (by omega)
  · rw [Int.tmod_eq_emod_of_nonneg hz]; exact Int.emod_lt_of_pos _ (by omega)
theorem Blk.drewN {w : World} {b : Nat} {cs : List Value} {T : TypeId} (h : Blk w b cs T) (m : Nat) : Blk (w.drewN m) b cs T := h
theorem cell_drewN (w : World) (m : Nat) (a : Addr) : (w.drewN m).cell? a = w.cell? a := rfl
theorem cell_set_ne (w : World) (a : Addr) (b o : Nat) (v : Value) (h : b ≠ a.block) : (w.setCell a v).cell? ⟨b, o, none⟩ = w.cell? ⟨b, o, none⟩ :=
  World.cell?_of_block (a := ⟨b, o, none⟩) (Below.heap_setCell w a v b h)
theorem grown_drewN {w W : World} {r : Option Nat} (h : w.grownBy W r) (m : Nat) : w.grownBy (W.drewN m) r := ⟨h.os, h.tape, h.output, h.size, h.block⟩
/-- a source whose next byte is number i -/
def SrcAt (w : World) (g : Nat) (code : List Int) (i : Nat) : Prop :=
  BytesOk code ∧ ∃ A cx, ∃ x : Int, i ≤ code.length ∧ Blk w g [.slice A code.length cx, .int .i64 i, .int .u64 x] 74 ∧
    ∀ j (h : j < code.length), ∃ b off, A = some ⟨b, off, none⟩ ∧ b < g ∧ w.cell? ⟨b, off + j, none⟩ = some (.int .u8 code[j])
theorem SrcAt.src {w : World} {g : Nat} {code : List Int} {i : Nat} (h : SrcAt w g code i) : Src w g code := by
  obtain ⟨h0, A, cx, x, hi, hB, hC⟩ := h
  exact ⟨h0, A, cx, i, x, hi, hB, hC⟩
theorem SrcAt.below {w w1 : World} {g : Nat} {code : List Int} {i : Nat} (h : SrcAt w g code i) (hb : Below w.heap.size w w1) : SrcAt w1 g code i := by
  obtain ⟨h0, A, cx, x, hi, hB, hC⟩ := h
  refine ⟨h0, A, cx, x, hi, hB.under hb, fun j hj => ?_⟩
  obtain ⟨b, off, e, hlt, hc⟩ := hC j hj
  exact ⟨b, off, e, hlt, (hb.cell (p := ⟨b, _, none⟩) (World.block_lt_of_cell? w _ hc)).trans hc⟩
theorem SrcAt.hash {w : World} {g : Nat} {code : List Int} {i : Nat} (h : SrcAt w g code i) (y : Int) : SrcAt (w.setCell ⟨g, 2, none⟩ (.int .u64 y)) g code i := by
  obtain ⟨h0, A, cx, x, hi, hB, hC⟩ := h
  refine ⟨h0, A, cx, y, hi, hB.set 2 _, fun j hj => ?_⟩
  obtain ⟨b, off, e, hlt, hc⟩ := hC j hj
  exact ⟨b, off, e, hlt, by rw [cell_set_ne _ _ _ _ _ (Nat.ne_of_lt hlt)]; exact hc⟩
theorem src_hash {w : World} {g : Nat} {code : List Int} {i cx : Nat} {A : Option Addr} {x : Int} (h0 : BytesOk code) (hi : i ≤ code.length)
    (hB : Blk w g [.slice A code.length cx, .int .i64 i, .int .u64 x] 74)
    (hC : ∀ j (h : j < code.length), ∃ b off, A = some ⟨b, off, none⟩ ∧ b < g ∧ w.cell? ⟨b, off + j, none⟩ = some (.int .u8 code[j])) (y : Int) (m : Nat) :
    SrcAt ((w.setCell ⟨g, 2, none⟩ (.int .u64 y)).drewN m) g code i := by
  refine ⟨h0, A, cx, y, hi, Blk.drewN (hB.set 2 _) _, fun j hj => ?_⟩
  obtain ⟨b, off, e, hlt, hc⟩ := hC j hj
  exact ⟨b, off, e, hlt, by rw [cell_drewN, cell_set_ne _ _ _ _ _ (Nat.ne_of_lt hlt)]; exact hc⟩
theorem src_step {w : World} {g : Nat} {code : List Int} {i : Nat} {y : Int} (hi : i < code.length) (h : SrcAt w g code i) (hy : y = wrap64 ((i : Int) + 1)) : Src (w.setCell ⟨g, 1, none⟩ (.int .i64 y)) g code := by
  obtain ⟨h0, A, cx, x, _, hB, hC⟩ := h
  have e : y = ((i + 1 : Nat) : Int) := by have := h0.1; rw [hy]; unfold wrap64; omega
  subst e
  refine ⟨h0, A, cx, i + 1, x, by omega, hB.set 1 _, fun j hj => ?_⟩
  obtain ⟨b, off, e, hlt, hc⟩ := hC j hj
  exact ⟨b, off, e, hlt, by rw [cell_set_ne _ _ _ _ _ (Nat.ne_of_lt hlt)]; exact hc⟩
set_option maxRecDepth 100000 in
set_option maxHeartbeats 1000000 in
theorem l01Next_c (g : Nat) (code : List Int) (n : Int) (w : World) (h : Src w g code) :
    Calls Try.prog 51 #[.pointer (some ⟨g, 0, none⟩), .int .i64 n] w (Drawn w g code n) := by
  by_cases hn : n < 1
  · have h1 : decide (n < 1) = true := by simp [hn]
    go_enter Try.func51, Try.ntmps51
    go_wp2
    go_ret
    exact ⟨0, rfl, by omega, fun _ => rfl, fun h => by omega, h, World.grownBy.refl _ _⟩
  · obtain ⟨h0, A, cx, i, x, hi, hB, hC⟩ := h
    have HB := Lib.hid hB
    have HC := Lib.hid hC
    have HK := Lib.hid h0
    have c0 := hB.cell 0 (by simp)
    have c1 := hB.cell 1 (by simp)
    have c2 := hB.cell 2 (by simp)
    have z1 := hB.frozen 1
    have z2 := hB.frozen 2
    simp only [List.getElem_cons_zero, List.getElem_cons_succ] at c0 c1 c2
    have hn' : decide (n < 1) = false := by simp [hn]
    have hnz : (n == 0) = false := by simp; omega
    by_cases hlt : i < code.length
    · obtain ⟨b, off, rfl, hbg, hc⟩ := hC i hlt
      clear hB hC h0
      have hb2 := hbg
      go_enter Try.func51, Try.ntmps51
      go_wp2
      repeat (go_quiet (fail); try go_wp2)
      go_ret
      refine drawn_ret (by omega) ?_ ?_ ?_
      · have h1 := drawn_bits (IntKind.u64.wrap (x * 6364136223846793005) + 1442695040888963407)
        have h2 := HK.out.at i hlt
        unfold wrap64
        omega
      · exact src_step (by omega) (src_hash HK.out (by omega) HB.out HC.out _ _) (by simp)
      · exact grown_set (grown_drewN (grown_set (World.grownBy.refl _ _)) _)
    · clear hC h0
      have hlt' : ¬ ((i : Int) < (code.length : Int)) := by omega
      go_enter Try.func51, Try.ntmps51
      go_wp2
      repeat (go_quiet (fail); try go_wp2)
      go_ret
      refine drawn_ret (by omega) ?_ ?_ ?_
      · have h1 := drawn_bits (IntKind.u64.wrap (x * 6364136223846793005) + 1442695040888963407)
        unfold wrap64
        omega
      · exact (src_hash HK.out hi HB.out HC.out _ _).src
      · exact grown_drewN (grown_set (World.grownBy.refl _ _)) _
def Picked (w : World) (g : Nat) (code xs : List Int) (e : Ending) (w' : World) : Prop :=
  ∃ r : Int, e = .returned (.int .i64 r) ∧ r ∈ xs ∧ Src w' g code ∧ w.grownBy w' (some g)
theorem Cells.grown {w w1 : World} {A : Option Addr} {cs : List Value} {g : Nat} (h : Cells w A cs) (hg : w.grownBy w1 (some g)) (hne : ∀ b off, A = some ⟨b, off, none⟩ → b ≠ g) : Cells w1 A cs := by
  intro j hj
  obtain ⟨b, off, hA, hc⟩ := h j hj
  exact ⟨b, off, hA, (hg.cell hc (by intro e; injection e with e; exact hne b off hA e))⟩
set_option maxRecDepth 100000 in
set_option maxHeartbeats 1000000 in
theorem l01Pick_c (g : Nat) (code xs : List Int) (A : Option Addr) (cx : Nat) (w : World) (h : Src w g code) (hX : Cells w A (ints xs)) (hne : ∀ b off, A = some ⟨b, off, none⟩ → b ≠ g) (hl : 1 ≤ xs.length) (hl2 : xs.length ≤ 1000000) :
    Calls Try.prog 65 #[.pointer (some ⟨g, 0, none⟩), .slice A xs.length cx] w (Picked w g code xs) := by
  have HN := Lib.hid (l01Next_c g code xs.length w h)
  have HX := Lib.hid hX
  have HNE := Lib.hid hne
  clear hX hne h
  go_enter Try.func65, Try.ntmps65
  go_wp2_with fail
  refine HN.out.mono ?_
  rintro e w1 ⟨r, rfl, h0, _, h1, hS, hg⟩
  obtain ⟨k, rfl⟩ := Int.eq_ofNat_of_zero_le h0
  have hk : k < xs.length := by have := h1 (by omega); omega
  have HG := Lib.hid hg
  obtain ⟨b, off, rfl, hlt, hc⟩ := (HX.out.grown hg HNE.out).int k hk
  have HM := Lib.hid (List.getElem_mem hk)
  have HS := Lib.hid hS
  clear hg hS h1 h0
  generalize xs[k] = y at *
  go_wp2
  go_ret
  exact ⟨_, rfl, HM.out, HS.out, HG.out⟩
def Drawn2 (w : World) (g : Nat) (code : List Int) (e : Ending) (w' : World) : Prop :=
  ∃ a b : Int, e = .returned (.tuple #[.int .i64 a, .int .i64 b]) ∧ Src w' g code ∧ w.grownBy w' (some g)
/-- a new block with numbers, for a draw out of a few -/
theorem cells_new (w : World) (cs : Array Value) (T : TypeId) (xs : List Int) (hc : cs.toList = ints xs) : Cells (w.alloc (.cells cs T)) (some ⟨w.heap.size, 0, none⟩) (ints xs) := by
  have h := (Blk.newA w cs T).cells
  rw [hc] at h
  exact h
theorem ne_new {g a : Nat} (h : g < a) : ∀ b off, (some ⟨a, 0, none⟩ : Option Addr) = some ⟨b, off, none⟩ → b ≠ g := by
  intro b off e
  injection e with e
  injection e with e
  omega
theorem pick_new (g : Nat) (code : List Int) (w : World) (h : Src w g code) (cs : Array Value) (T : TypeId) (xs : List Int) (n : Nat) (hc : cs.toList = ints xs) (hn : n = xs.length) (h1 : 1 ≤ xs.length ∧ xs.length ≤ 1000) :
    Calls Try.prog 65 #[.pointer (some ⟨g, 0, none⟩), .slice (some ⟨w.heap.size, 0, none⟩) n n] (w.alloc (.cells cs T)) (Picked w g code xs) := by
  subst hn
  refine (l01Pick_c g code xs (some ⟨w.heap.size, 0, none⟩) xs.length (w.alloc (.cells cs T)) (h.alloc _) (cells_new w cs T xs hc) (ne_new h.lt) h1.1 (by omega)).mono ?_
  rintro e w1 ⟨r, rfl, hr, hS, hg⟩
  exact ⟨r, rfl, hr, hS, (World.grownBy_alloc w _ _).trans hg⟩
set_option maxRecDepth 100000 in
set_option maxHeartbeats 1000000 in
theorem l01From_c (A : Option Addr) (cx : Nat) (code : List Int) (w : World) (h : BytesC w A code) (hok : BytesOk code) :
    Calls Try.prog 38 #[.slice A code.length cx] w (fun e w' => ∃ g, e = .returned (.pointer (some ⟨g, 0, none⟩)) ∧ w.heap.size ≤ g ∧ Src w' g code ∧ Below w.heap.size w w') := by
  have HC := Lib.hid h
  have HK := Lib.hid hok
  have hl : code.length ≤ 4096 := hok.1
  clear h hok
  go_enter Try.func38, Try.ntmps38
  go_wp2_with fail
  go_loopw [4] (fun i wr => ∃ k : Nat, k ≤ code.length ∧ i = .int .i64 k ∧ SrcAt wr w.heap.size code 0 ∧ Below w.heap.size w wr) (fun i _ => code.length - (intOf i).toNat)
  case atStart =>
    refine ⟨0, by omega, rfl, ⟨HK.out, A, cx, _, by omega, Blk.newA w _ _, fun j hj => ?_⟩, by (repeat (first | (with_reducible exact Below.refl _ _) | (with_reducible assumption) | (with_reducible refine below_al ?_) | (with_reducible refine below_dr ?_) | (with_reducible refine below_drN ?_) | (with_reducible refine below_set ?_ (by first | exact Nat.le_refl _ | (dsimp only; omega) | omega)) | (with_reducible refine below_tr (by with_reducible assumption) ?_)))⟩
    obtain ⟨b, off, e, hc⟩ := HC.out j hj
    exact ⟨b, off, e, World.block_lt_of_cell? w _ hc, cell_alloc_old _ _ _ _ _ hc⟩
  case round =>
    obtain ⟨k, hk, rfl, hS, hb⟩ := hrel
    have HS := Lib.hid hS
    have HB := Lib.hid hb
    by_cases h1 : k < code.length
    · obtain ⟨_, A', cx', x, _, hB, hC⟩ := hS
      have h2 : k < 4096 := by omega
      have c2 := hB.cell 2 (by simp)
      have z2 := hB.frozen 2
      simp only [List.getElem_cons_zero, List.getElem_cons_succ] at c2
      obtain ⟨b, off, rfl, hbc⟩ := HC.out k h1
      have hc := (hb.cell (p := ⟨b, off + k, none⟩) (World.block_lt_of_cell? w _ hbc)).trans hbc
      have e2 := keepC c2
      have e0 := keepC hc
      have f2 := fun w1 (h : Below wr.heap.size wr w1) => (h.frozen (p := ⟨w.heap.size, 2, none⟩) hB.lt).trans z2
      clear hB hC hbc hb c2 hc z2
      generalize code[k] = y at *
      go_wp2_with fail
      refine wp_region_add_tail 15 (fun w' => Below (wr).heap.size (wr) w') (by kernel_rfl) (by kernel_rfl) ((Below.refl _ _).drew) ?_
      simp only [List.take_succ_cons, List.take_zero, List.drop_succ_cons, List.drop_zero]
      repeat (first
        | (refine add_skip rfl (fun K' hK' => ?_); go_simp; refine hK' _ ?_; clear hK' K')
        | (refine add_do (v := ?_) rfl (fun w1 hb => ?_) (fun K' hK' => ?_); rotate_left
           · go_simp
             first
             | (with_reducible exact rfl)
             | (with_reducible exact ⟨rfl, hb⟩)
             | exact rfl
             | exact ⟨rfl, hb⟩
           go_simp; refine hK' _ ?_; clear hK' K'))
      refine add_nil ?_
      intro wa hba
      have zz := f2 wa hba
      go_wp2
      go_roundw
      case rel => exact ⟨k + 1, by omega, by go_num, (HS.out.below hba).hash _, by have h3 := HB.out; (repeat (first | (with_reducible exact Below.refl _ _) | (with_reducible assumption) | (with_reducible refine below_al ?_) | (with_reducible refine below_dr ?_) | (with_reducible refine below_drN ?_) | (with_reducible refine below_set ?_ (by first | exact Nat.le_refl _ | (dsimp only; omega) | omega)) | (with_reducible refine below_tr (by with_reducible assumption) ?_)))⟩
      case measure => simp [intOf]; omega
    · obtain rfl : k = code.length := by omega
      clear hS hb
      go_wp2
      go_ret
      exact ⟨_, rfl, Nat.le_refl _, HS.out.src, HB.out⟩

end Go.Proofs.Ytkgnejhflnekaaa
