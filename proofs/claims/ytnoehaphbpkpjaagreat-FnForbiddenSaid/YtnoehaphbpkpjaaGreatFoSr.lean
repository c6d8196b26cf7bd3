/- Contracts and lemmas for the statements of this seat, written for this claim; each theorem states its own conditions. -/
import Derived.BigQuiet
import Derived.Laws.BitsLemmas
import Derived.Test.YtnoehaphbpkpjaaGreatFoSe
import Derived.Test.YtnoehaphbpkpjaaGreatFoBk
import Derived.Test.YtnoehaphbpkpjaaGreatFoBy
import Derived.Test.YtnoehaphbpkpjaaGreatFoL1
set_option linter.unusedVariables false
set_option linter.unusedSimpArgs false
namespace Go.Proofs.YtnoehaphbpkpjaaGreat
open Go.RowKit
attribute [local go_sem] addUpon_value addUpon_skip addUpon_enter
/-- a slice of bytes reads as a list -/
def BytesC (w : World) (A : Option Addr) (xs : List Int) : Prop :=
  ∀ j (h : j < xs.length), ∃ b off, A = some ⟨b, off, none⟩ ∧ w.cell? ⟨b, off + j, none⟩ = some (.int .u8 xs[j])
theorem BytesC.below {w w1 : World} {A : Option Addr} {xs : List Int} (h : BytesC w A xs) (hb : Below w.heap.size w w1) : BytesC w1 A xs := by
  intro j hj
  obtain ⟨b, off, hA, hc⟩ := h j hj
  exact ⟨b, off, hA, (hb.cell (p := ⟨b, _, none⟩) (World.block_lt_of_cell? w _ hc)).trans hc⟩
def BytesOk (xs : List Int) : Prop := xs.length ≤ 4096 ∧ ∀ x ∈ xs, 0 ≤ x ∧ x < 256
theorem BytesOk.at {xs : List Int} (h : BytesOk xs) (j : Nat) (hj : j < xs.length) : 0 ≤ xs[j] ∧ xs[j] < 256 := h.2 _ (List.getElem_mem hj)
/-- block g holds a source of draws over a code -/
def Src (w : World) (g : Nat) (code : List Int) : Prop :=
  BytesOk code ∧ ∃ A cx, ∃ i : Nat, ∃ x : Int, i ≤ code.length ∧ Blk w g [.slice A code.length cx, .int .i64 i, .int .u64 x] 134 ∧
    ∀ j (h : j < code.length), ∃ b off, A = some ⟨b, off, none⟩ ∧ b < g ∧ w.cell? ⟨b, off + j, none⟩ = some (.int .u8 code[j])
theorem Src.lt {w : World} {g : Nat} {code : List Int} (h : Src w g code) : g < w.heap.size := by
  obtain ⟨_, A, cx, i, x, _, hB, _⟩ := h
  exact hB.lt
theorem Src.move {w w1 : World} {g : Nat} {code : List Int} (h : Src w g code) (hk : ∀ k, k ≤ g → w1.heap[k]? = w.heap[k]?) : Src w1 g code := by
  obtain ⟨h0, A, cx, i, x, hi, hB, hC⟩ := h
  refine ⟨h0, A, cx, i, x, hi, (hk g (Nat.le_refl _)).trans hB, fun j hj => ?_⟩
  obtain ⟨b, off, hA, hlt, hc⟩ := hC j hj
  exact ⟨b, off, hA, hlt, (World.cell?_of_block (a := ⟨b, _, none⟩) (hk b (by omega))).trans hc⟩
theorem Src.below {w w1 : World} {g : Nat} {code : List Int} (h : Src w g code) (hb : Below w.heap.size w w1) : Src w1 g code :=
  h.move fun k hk => hb.block k (Nat.lt_of_le_of_lt hk h.lt)
theorem Src.alloc {w : World} {g : Nat} {code : List Int} (h : Src w g code) (o : Obj) : Src (w.alloc o) g code := h.below ((Below.refl _ _).alloc (Nat.le_refl _) o)
theorem Src.drew {w : World} {g : Nat} {code : List Int} (h : Src w g code) : Src w.drew g code := h.below (Below.refl _ _).drew
/-- another row's change leaves a source as it is -/
theorem Src.grown {w w1 : World} {g k : Nat} {code : List Int} (h : Src w g code) (hg : w.grownBy w1 (some k)) (hk : g < k) : Src w1 g code :=
  h.move fun j hj => hg.block j (Nat.lt_of_le_of_lt hj h.lt) (by intro e; injection e with e; omega)
theorem grown_set {w W : World} {g j : Nat} {v : Value} (h : w.grownBy W (some g)) : w.grownBy (W.setCell ⟨g, j, none⟩ v) (some g) :=
  h.trans ⟨rfl, rfl, rfl, by simp [World.setCell], fun k _ hne => Below.heap_setCell W ⟨g, j, none⟩ v k (fun e => hne (by rw [e]))⟩
theorem grown_drew {w W : World} {r : Option Nat} (h : w.grownBy W r) : w.grownBy W.drew r := ⟨h.os, h.tape, h.output, h.size, h.block⟩
theorem grown_below {w W : World} (h : Below w.heap.size w W) (r : Option Nat) : w.grownBy W r := ⟨h.os, h.tape, h.output, h.size, fun k hk _ => h.block k hk⟩
theorem below_src {w W w1 : World} {g : Nat} (h : Below w.heap.size w W) (hg : W.grownBy w1 (some g)) (hlt : w.heap.size ≤ g) : Below w.heap.size w w1 :=
  h.grown hg h.size (fun k hk => by injection hk with hk; omega)
def Drawn (w : World) (g : Nat) (code : List Int) (n : Int) (e : Ending) (w' : World) : Prop :=
  ∃ r : Int, e = .returned (.int .i64 r) ∧ 0 ≤ r ∧ (n < 1 → r = 0) ∧ (1 ≤ n → r < n) ∧ Src w' g code ∧ w.grownBy w' (some g)
theorem u64_lo (x : Int) : 0 ≤ IntKind.u64.wrap x ∧ IntKind.u64.wrap x < 18446744073709551616 := by
  rw [show IntKind.u64.wrap x = x % 18446744073709551616 by simp [IntKind.wrap, IntKind.bits, IntKind.signed]]
  omega
theorem drawn_bits (x : Int) : 0 ≤ bits .and .u64 (IntKind.u64.wrap x / 8589934592) 16777215 ∧ bits .and .u64 (IntKind.u64.wrap x / 8589934592) 16777215 ≤ 16777215 := by
  have h := u64_lo x
  have e := bits_mask .u64 32 (by decide) (fun n h0 h1 => by rw [show IntKind.u64.wrap n = n % 18446744073709551616 by simp [IntKind.wrap, IntKind.bits, IntKind.signed]]; omega) 24 (by decide) (IntKind.u64.wrap x / 8589934592) (by omega) (by omega)
  rw [show (16777215 : Int) = 2 ^ 24 - 1 by decide, e]
  omega
theorem drawn_ret {g : Nat} {code : List Int} {n z : Int} {w w' : World} (hn : 1 ≤ n) (hz : 0 ≤ z) (h : Src w' g code) (hg : w.grownBy w' (some g)) : Drawn w g code n (.returned (.int .i64 (z.tmod n))) w' := by
  refine ⟨_, rfl, ?_, fun h => by omega, fun _ => ?_, h, hg⟩
  · rw [Int.tmod_eq_emod_of_nonneg hz]; exact Int.emod_nonneg _ (by omega)
  · rw [Int.tmod_eq_emod_of_nonneg hz]; exact Int.emod_lt_of_pos _ (by omega)
theorem Blk.drewN {w : World} {b : Nat} {cs : List Value} {T : TypeId} (h : Blk w b cs T) (m : Nat) : Blk (w.drewN m) b cs T := h
theorem cell_drewN (w : World) (m : Nat) (a : Addr) : (w.drewN m).cell? a = w.cell? a := rfl
theorem cell_set_ne (w : World) (a : Addr) (b o : Nat) (v : Value) (h : b ≠ a.block) : (w.setCell a v).cell? ⟨b, o, none⟩ = w.cell? ⟨b, o, none⟩ :=
  World.cell?_of_block (a := ⟨b, o, none⟩) (Below.heap_setCell w a v b h)
theorem grown_drewN {w W : World} {r : Option Nat} (h : w.grownBy W r) (m : Nat) : w.grownBy (W.drewN m) r := ⟨h.os, h.tape, h.output, h.size, h.block⟩
/-- a source whose next byte is number i -/
def SrcAt (w : World) (g : Nat) (code : List Int) (i : Nat) : Prop :=
  BytesOk code ∧ ∃ A cx, ∃ x : Int, i ≤ code.length ∧ Blk w g [.slice A code.length cx, .int .i64 i, .int .u64 x] 134 ∧
    ∀ j (h : j < code.length), ∃ b off, A = some ⟨b, off, none⟩ ∧ b < g ∧ w.cell? ⟨b, off + j, none⟩ = some (.int .u8 code[j])
theorem SrcAt.src {w : World} {g : Nat} {code : List Int} {i : Nat} (h : SrcAt w g code i) : Src w g code := by
  obtain ⟨h0, A, cx, x, hi, hB, hC⟩ := h
  exact ⟨h0, A, cx, i, x, hi, hB, hC⟩
theorem SrcAt.below {w w1 : World} {g : Nat} {code : List Int} {i : Nat} (h : SrcAt w g code i) (hb : Below w.heap.size w w1) : SrcAt w1 g code i := by
  obtain ⟨h0, A, cx, x, hi, hB, hC⟩ := h
  refine ⟨h0, A, cx, x, hi, hB.under hb, fun j hj => ?_⟩
  obtain ⟨b, off, e, hlt, hc⟩ := hC j hj
  exact ⟨b, off, e, hlt, (hb.cell (p := ⟨b, _, none⟩) (World.block_lt_of_cell? w _ hc)).trans hc⟩
theorem SrcAt.hash {w : World} {g : Nat} {code : List Int} {i : Nat} (h : SrcAt w g code i) (y : Int) : SrcAt (w.setCell ⟨g, 2, none⟩ (.int .u64 y)) g code i := by
  obtain ⟨h0, A, cx, x, hi, hB, hC⟩ := h
  refine ⟨h0, A, cx, y, hi, hB.set 2 _, fun j hj => ?_⟩
  obtain ⟨b, off, e, hlt, hc⟩ := hC j hj
  exact ⟨b, off, e, hlt, by rw [cell_set_ne _ _ _ _ _ (Nat.ne_of_lt hlt)]; exact hc⟩
theorem src_hash {w : World} {g : Nat} {code : List Int} {i cx : Nat} {A : Option Addr} {x : Int} (h0 : BytesOk code) (hi : i ≤ code.length)
    (hB : Blk w g [.slice A code.length cx, .int .i64 i, .int .u64 x] 134)
    (hC : ∀ j (h : j < code.length), ∃ b off, A = some ⟨b, off, none⟩ ∧ b < g ∧ w.cell? ⟨b, off + j, none⟩ = some (.int .u8 code[j])) (y : Int) (m : Nat) :
    SrcAt ((w.setCell ⟨g, 2, none⟩ (.int .u64 y)).drewN m) g code i := by
  refine ⟨h0, A, cx, y, hi, Blk.drewN (hB.set 2 _) _, fun j hj => ?_⟩
  obtain ⟨b, off, e, hlt, hc⟩ := hC j hj
  exact ⟨b, off, e, hlt, by rw [cell_drewN, cell_set_ne _ _ _ _ _ (Nat.ne_of_lt hlt)]; exact hc⟩
theorem src_step {w : World} {g : Nat} {code : List Int} {i : Nat} {y : Int} (hi : i < code.length) (h : SrcAt w g code i) (hy : y = wrap64 ((i : Int) + 1)) : Src (w.setCell ⟨g, 1, none⟩ (.int .i64 y)) g code := by
  obtain ⟨h0, A, cx, x, _, hB, hC⟩ := h
  have e : y = ((i + 1 : Nat) : Int) := by have := h0.1; rw [hy]; unfold wrap64; omega
  subst e
  refine ⟨h0, A, cx, i + 1, x, by omega, hB.set 1 _, fun j hj => ?_⟩
  obtain ⟨b, off, e, hlt, hc⟩ := hC j hj
  exact ⟨b, off, e, hlt, by rw [cell_set_ne _ _ _ _ _ (Nat.ne_of_lt hlt)]; exact hc⟩
set_option maxRecDepth 100000 in
set_option maxHeartbeats 1000000 in
theorem l01Next_c (g : Nat) (code : List Int) (n : Int) (w : World) (h : Src w g code) :
    Calls Tryz.prog 99 #[.pointer (some ⟨g, 0, none⟩), .int .i64 n] w (Drawn w g code n) := by
  by_cases hn : n < 1
  · have h1 : decide (n < 1) = true := by simp [hn]
    go_enter Tryz.func99, Tryz.ntmps99
    go_wp2
    go_ret
    exact ⟨0, rfl, by omega, fun _ => rfl, fun h => by omega, h, World.grownBy.refl _ _⟩
  · obtain ⟨h0, A, cx, i, x, hi, hB, hC⟩ := h
    have HB := Lib.hid hB
    have HC := Lib.hid hC
    have HK := Lib.hid h0
    have c0 := hB.cell 0 (by simp)
    have c1 := hB.cell 1 (by simp)
    have c2 := hB.cell 2 (by simp)
    have z1 := hB.frozen 1
    have z2 := hB.frozen 2
    simp only [List.getElem_cons_zero, List.getElem_cons_succ] at c0 c1 c2
    have hn' : decide (n < 1) = false := by simp [hn]
    have hnz : (n == 0) = false := by simp; omega
    by_cases hlt : i < code.length
    · obtain ⟨b, off, rfl, hbg, hc⟩ := hC i hlt
      clear hB hC h0
      have hb2 := hbg
      go_enter Tryz.func99, Tryz.ntmps99
      go_wp2
      repeat (go_quiet (fail); try go_wp2)
      go_ret
      refine drawn_ret (by omega) ?_ ?_ ?_
      · have h1 := drawn_bits (IntKind.u64.wrap (x * 6364136223846793005) + 1442695040888963407)
        have h2 := HK.out.at i hlt
        unfold wrap64
        omega
      · exact src_step (by omega) (src_hash HK.out (by omega) HB.out HC.out _ _) (by simp)
      · exact grown_set (grown_drewN (grown_set (World.grownBy.refl _ _)) _)
    · clear hC h0
      have hlt' : ¬ ((i : Int) < (code.length : Int)) := by omega
      go_enter Tryz.func99, Tryz.ntmps99
      go_wp2
      repeat (go_quiet (fail); try go_wp2)
      go_ret
      refine drawn_ret (by omega) ?_ ?_ ?_
      · have h1 := drawn_bits (IntKind.u64.wrap (x * 6364136223846793005) + 1442695040888963407)
        unfold wrap64
        omega
      · exact (src_hash HK.out hi HB.out HC.out _ _).src
      · exact grown_drewN (grown_set (World.grownBy.refl _ _)) _
def Picked (w : World) (g : Nat) (code xs : List Int) (e : Ending) (w' : World) : Prop :=
  ∃ r : Int, e = .returned (.int .i64 r) ∧ r ∈ xs ∧ Src w' g code ∧ w.grownBy w' (some g)
theorem Cells.grown {w w1 : World} {A : Option Addr} {cs : List Value} {g : Nat} (h : Cells w A cs) (hg : w.grownBy w1 (some g)) (hne : ∀ b off, A = some ⟨b, off, none⟩ → b ≠ g) : Cells w1 A cs := by
  intro j hj
  obtain ⟨b, off, hA, hc⟩ := h j hj
  exact ⟨b, off, hA, (hg.cell hc (by intro e; injection e with e; exact hne b off hA e))⟩
set_option maxRecDepth 100000 in
set_option maxHeartbeats 1000000 in
theorem l01Pick_c (g : Nat) (code xs : List Int) (A : Option Addr) (cx : Nat) (w : World) (h : Src w g code) (hX : Cells w A (ints xs)) (hne : ∀ b off, A = some ⟨b, off, none⟩ → b ≠ g) (hl : 1 ≤ xs.length) (hl2 : xs.length ≤ 1000000) :
    Calls Tryz.prog 98 #[.pointer (some ⟨g, 0, none⟩), .slice A xs.length cx] w (Picked w g code xs) := by
  have HN := Lib.hid (l01Next_c g code xs.length w h)
  have HX := Lib.hid hX
  have HNE := Lib.hid hne
  clear hX hne h
  go_enter Tryz.func98, Tryz.ntmps98
  go_wp2_with fail
  refine HN.out.mono ?_
  rintro e w1 ⟨r, rfl, h0, _, h1, hS, hg⟩
  obtain ⟨k, rfl⟩ := Int.eq_ofNat_of_zero_le h0
  have hk : k < xs.length := by have := h1 (by omega); omega
  have HG := Lib.hid hg
  obtain ⟨b, off, rfl, hlt, hc⟩ := (HX.out.grown hg HNE.out).int k hk
  have HM := Lib.hid (List.getElem_mem hk)
  have HS := Lib.hid hS
  clear hg hS h1 h0
  generalize xs[k] = y at *
  go_wp2
  go_ret
  exact ⟨_, rfl, HM.out, HS.out, HG.out⟩
def Drawn2 (w : World) (g : Nat) (code : List Int) (e : Ending) (w' : World) : Prop :=
  ∃ a b : Int, e = .returned (.tuple #[.int .i64 a, .int .i64 b]) ∧ Src w' g code ∧ w.grownBy w' (some g)
/-- a new block with numbers, for a draw out of a few -/
theorem cells_new (w : World) (cs : Array Value) (T : TypeId) (xs : List Int) (hc : cs.toList = ints xs) : Cells (w.alloc (.cells cs T)) (some ⟨w.heap.size, 0, none⟩) (ints xs) := by
  have h := (Blk.newA w cs T).cells
  rw [hc] at h
  exact h
theorem ne_new {g a : Nat} (h : g < a) : ∀ b off, (some ⟨a, 0, none⟩ : Option Addr) = some ⟨b, off, none⟩ → b ≠ g := by
  intro b off e
  injection e with e
  injection e with e
  omega
theorem pick_new (g : Nat) (code : List Int) (w : World) (h : Src w g code) (cs : Array Value) (T : TypeId) (xs : List Int) (n : Nat) (hc : cs.toList = ints xs) (hn : n = xs.length) (h1 : 1 ≤ xs.length ∧ xs.length ≤ 1000) :
    Calls Tryz.prog 98 #[.pointer (some ⟨g, 0, none⟩), .slice (some ⟨w.heap.size, 0, none⟩) n n] (w.alloc (.cells cs T)) (Picked w g code xs) := by
  subst hn
  refine (l01Pick_c g code xs (some ⟨w.heap.size, 0, none⟩) xs.length (w.alloc (.cells cs T)) (h.alloc _) (cells_new w cs T xs hc) (ne_new h.lt) h1.1 (by omega)).mono ?_
  rintro e w1 ⟨r, rfl, hr, hS, hg⟩
  exact ⟨r, rfl, hr, hS, (World.grownBy_alloc w _ _).trans hg⟩
set_option maxRecDepth 100000 in
set_option maxHeartbeats 1000000 in
theorem l01From_c (A : Option Addr) (cx : Nat) (code : List Int) (w : World) (h : BytesC w A code) (hok : BytesOk code) :
    Calls Tryz.prog 97 #[.slice A code.length cx] w (fun e w' => ∃ g, e = .returned (.pointer (some ⟨g, 0, none⟩)) ∧ w.heap.size ≤ g ∧ Src w' g code ∧ Below w.heap.size w w') := by
  have HC := Lib.hid h
  have HK := Lib.hid hok
  have hl : code.length ≤ 4096 := hok.1
  clear h hok
  go_enter Tryz.func97, Tryz.ntmps97
  go_wp2_with fail
  go_loopw [4] (fun i wr => ∃ k : Nat, k ≤ code.length ∧ i = .int .i64 k ∧ SrcAt wr w.heap.size code 0 ∧ Below w.heap.size w wr) (fun i _ => code.length - (intOf i).toNat)
  case atStart =>
    refine ⟨0, by omega, rfl, ⟨HK.out, A, cx, _, by omega, Blk.newA w _ _, fun j hj => ?_⟩, by (repeat (first | (with_reducible exact Below.refl _ _) | (with_reducible assumption) | (with_reducible refine below_al ?_) | (with_reducible refine below_dr ?_) | (with_reducible refine below_drN ?_) | (with_reducible refine below_set ?_ (by first | exact Nat.le_refl _ | (dsimp only; omega) | omega)) | (with_reducible refine below_tr (by with_reducible assumption) ?_)))⟩
    obtain ⟨b, off, e, hc⟩ := HC.out j hj
    exact ⟨b, off, e, World.block_lt_of_cell? w _ hc, cell_alloc_old _ _ _ _ _ hc⟩
  case round =>
    obtain ⟨k, hk, rfl, hS, hb⟩ := hrel
    have HS := Lib.hid hS
    have HB := Lib.hid hb
    by_cases h1 : k < code.length
    · obtain ⟨_, A', cx', x, _, hB, hC⟩ := hS
      have h2 : k < 4096 := by omega
      have c2 := hB.cell 2 (by simp)
      have z2 := hB.frozen 2
      simp only [List.getElem_cons_zero, List.getElem_cons_succ] at c2
      obtain ⟨b, off, rfl, hbc⟩ := HC.out k h1
      have hc := (hb.cell (p := ⟨b, off + k, none⟩) (World.block_lt_of_cell? w _ hbc)).trans hbc
      have e2 := keepC c2
      have e0 := keepC hc
      have f2 := fun w1 (h : Below wr.heap.size wr w1) => (h.frozen (p := ⟨w.heap.size, 2, none⟩) hB.lt).trans z2
      clear hB hC hbc hb c2 hc z2
      generalize code[k] = y at *
      go_wp2_with fail
      refine wp_region_add_tail 15 (fun w' => Below (wr).heap.size (wr) w') (by kernel_rfl) (by kernel_rfl) ((Below.refl _ _).drew) ?_
      simp only [List.take_succ_cons, List.take_zero, List.drop_succ_cons, List.drop_zero]
      repeat (first
        | (refine add_skip rfl (fun K' hK' => ?_); go_simp; refine hK' _ ?_; clear hK' K')
        | (refine add_do (v := ?_) rfl (fun w1 hb => ?_) (fun K' hK' => ?_); rotate_left
           · go_simp
             first
             | (with_reducible exact rfl)
             | (with_reducible exact ⟨rfl, hb⟩)
             | exact rfl
             | exact ⟨rfl, hb⟩
           go_simp; refine hK' _ ?_; clear hK' K'))
      refine add_nil ?_
      intro wa hba
      have zz := f2 wa hba
      go_wp2
      go_roundw
      case rel => exact ⟨k + 1, by omega, by go_num, (HS.out.below hba).hash _, by have h3 := HB.out; (repeat (first | (with_reducible exact Below.refl _ _) | (with_reducible assumption) | (with_reducible refine below_al ?_) | (with_reducible refine below_dr ?_) | (with_reducible refine below_drN ?_) | (with_reducible refine below_set ?_ (by first | exact Nat.le_refl _ | (dsimp only; omega) | omega)) | (with_reducible refine below_tr (by with_reducible assumption) ?_)))⟩
      case measure => simp [intOf]; omega
    · obtain rfl : k = code.length := by omega
      clear hS hb
      go_wp2
      go_ret
      exact ⟨_, rfl, Nat.le_refl _, HS.out.src, HB.out⟩

end Go.Proofs.YtnoehaphbpkpjaaGreat
namespace Go.Proofs.YtnoehaphbpkpjaaGreat
open Go.RowKit
attribute [local go_sem] addUpon_value addUpon_skip addUpon_enter
def eqL (xs ys : List Int) : Bool := decide (xs = ys)
set_option maxRecDepth 100000 in
set_option maxHeartbeats 1000000 in
theorem likeInts_c (xs ys : List Int) (A B : Option Addr) (cx cy : Nat) (w : World) (hx : Cells w A (ints xs)) (hy : Cells w B (ints ys)) (lx : xs.length ≤ 1000000000) (ly : ys.length ≤ 1000000000) :
    Calls Tryz.prog 57 #[.slice A xs.length cx, .slice B ys.length cy] w fun e w' => e = .returned (.bool (eqL xs ys)) ∧ Below w.heap.size w w' := by
  by_cases hl : xs.length = ys.length
  · have HL := Lib.hid hl
    have hl' : ((xs.length : Int) != (ys.length : Int)) = false := by simp; omega
    have hl2 : ys.length ≤ xs.length := by omega
    have hl3 : xs.length ≤ ys.length := by omega
    clear hl
    go_enter Tryz.func57, Tryz.ntmps57
    go_wp2
    go_loopw [5] (fun i wr => ∃ k : Nat, k ≤ xs.length ∧ i = .int .i64 k ∧ Hid (∀ j (h1 : j < xs.length) (h2 : j < ys.length), j < k → xs[j] = ys[j]) ∧ Below w.heap.size w wr) (fun i _ => xs.length - (intOf i).toNat)
    case atStart => exact ⟨0, by omega, rfl, fun j _ _ h => by omega, Below.refl _ _⟩
    case round =>
      obtain ⟨k, hk, rfl, Hn, hb⟩ := hrel
      have Hb := Lib.hid hb
      by_cases h1 : k < xs.length
      · have h2 : k < ys.length := by omega
        obtain ⟨b, off, rfl, hlt, c0⟩ := (hx.below hb).int k h1
        obtain ⟨b', off', rfl, hlt', d0⟩ := (hy.below hb).int k h2
        by_cases hE : xs[k] = ys[k]
        · have HE : Hid (∀ j (h1 : j < xs.length) (h2 : j < ys.length), j < k + 1 → xs[j] = ys[j]) := fun j h1 h2 hj => by
            by_cases e : j = k
            · subst e; exact hE
            · exact Hn.out j h1 h2 (by omega)
          have hE' : (xs[k] != ys[k]) = false := by simp [hE]
          have e0 := keepC c0
          have f0 := keepC d0
          clear hE hx hy hb c0 d0
          generalize xs[k] = s at *
          generalize ys[k] = t at *
          go_wp2_with fail
          refine wp_region_add (fun w' => Below (wr).heap.size (wr) w') (by kernel_rfl) (by kernel_rfl) ((Below.refl _ _).drew) ?_
          repeat (first
            | (refine add_skip rfl (fun K' hK' => ?_); go_simp; refine hK' _ ?_; clear hK' K')
            | (refine add_do (v := ?_) rfl (fun w1 hb => ?_) (fun K' hK' => ?_); rotate_left
               · go_simp
                 first
                 | (with_reducible exact rfl)
                 | (with_reducible exact ⟨rfl, hb⟩)
                 | exact rfl
                 | exact ⟨rfl, hb⟩
               go_simp; refine hK' _ ?_; clear hK' K'))
          refine add_nil ?_
          intro wa hba
          go_wp2
          go_roundw
          case rel => exact ⟨k + 1, by omega, by go_num, HE, by have h3 := Hb.out; (repeat (first | (with_reducible exact Below.refl _ _) | (with_reducible assumption) | (with_reducible refine below_al ?_) | (with_reducible refine below_dr ?_) | (with_reducible refine below_drN ?_) | (with_reducible refine below_set ?_ (by first | exact Nat.le_refl _ | (dsimp only; omega) | omega)) | (with_reducible refine below_tr (by with_reducible assumption) ?_)))⟩
          case measure => simp [intOf]; omega
        · have HE : Hid (eqL xs ys = false) := by
            show eqL xs ys = false
            simp only [eqL, decide_eq_false_iff_not]; intro e; exact hE (by simp [e])
          have hE' : (xs[k] != ys[k]) = true := by simp [hE]
          have e0 := keepC c0
          have f0 := keepC d0
          clear hE hx hy hb c0 d0
          generalize xs[k] = s at *
          generalize ys[k] = t at *
          go_wp2_with fail
          refine wp_region_add (fun w' => Below (wr).heap.size (wr) w') (by kernel_rfl) (by kernel_rfl) ((Below.refl _ _).drew) ?_
          repeat (first
            | (refine add_skip rfl (fun K' hK' => ?_); go_simp; refine hK' _ ?_; clear hK' K')
            | (refine add_do (v := ?_) rfl (fun w1 hb => ?_) (fun K' hK' => ?_); rotate_left
               · go_simp
                 first
                 | (with_reducible exact rfl)
                 | (with_reducible exact ⟨rfl, hb⟩)
                 | exact rfl
                 | exact ⟨rfl, hb⟩
               go_simp; refine hK' _ ?_; clear hK' K'))
          refine add_nil ?_
          intro wa hba
          go_wp2
          go_ret
          exact ⟨ret_bool HE.out.symm, by have h3 := Hb.out; (repeat (first | (with_reducible exact Below.refl _ _) | (with_reducible assumption) | (with_reducible refine below_al ?_) | (with_reducible refine below_dr ?_) | (with_reducible refine below_drN ?_) | (with_reducible refine below_set ?_ (by first | exact Nat.le_refl _ | (dsimp only; omega) | omega)) | (with_reducible refine below_tr (by with_reducible assumption) ?_)))⟩
      · have hE : Hid (eqL xs ys = true) := by
          show eqL xs ys = true
          simp only [eqL, decide_eq_true_eq]
          exact List.ext_getElem HL.out fun j h1 h2 => Hn.out j h1 h2 (by omega)
        clear hx hy
        go_wp2
        go_ret
        exact ⟨ret_bool hE.out.symm, hb⟩
  · have hR : Hid (eqL xs ys = false) := by
      show eqL xs ys = false
      simp only [eqL, decide_eq_false_iff_not]; intro e; exact hl (by rw [e])
    have hl' : ((xs.length : Int) != (ys.length : Int)) = true := by simp; omega
    clear hl
    go_enter Tryz.func57, Tryz.ntmps57
    go_wp2
    go_ret
    exact ⟨ret_bool hR.out.symm, Below.refl _ _⟩

end Go.Proofs.YtnoehaphbpkpjaaGreat
namespace Go.Proofs.YtnoehaphbpkpjaaGreat
open Go.RowKit
theorem eqL_refl (xs : List Int) : eqL xs xs = true := by simp [eqL]
theorem big_c (n cx : Nat) (A : Option Addr) (w : World) (hl : n ≤ 9223372036854775807) : Calls Tryz.prog 5 #[.slice A n cx] w fun e w' => e = .returned (.bool (decide ((n : Int) > 4096))) ∧ w = w' := by
  go_enter Tryz.func5, Tryz.ntmps5
  go_wp2
  go_ret
  exact ⟨rfl, rfl⟩
end Go.Proofs.YtnoehaphbpkpjaaGreat
namespace Go.Proofs.YtnoehaphbpkpjaaGreat
open Go.RowKit
theorem cellsU8 : Tryz.prog.cellsOf 5 = 1 := by kernel_rfl
theorem u8_wf {z : Int} (h : (Lit.int .u8 z).wf = true) : 0 ≤ z ∧ z < 256 := by
  simp [Lit.wf, IntKind.min, IntKind.max, IntKind.wrap, IntKind.bits, IntKind.signed] at h
  omega
section
variable {H : Type} {enc : TypeId × Value → H} {w : World} {spare : Nat → Bool} {held : Bool}
theorem trod_bytes {n : Nat} {cs : List Value} {x : DataW H × List MemPlace} (h : DataW.trod enc Tryz.prog w 0 spare held n 22 cs = some x) :
    ∃ A cap, ∃ xs : List Int, cs = [.slice A xs.length cap] ∧ xs.length ≤ 9223372036854775807 ∧ BytesC w A xs ∧ ∀ x ∈ xs, 0 ≤ x ∧ x < 256 := by
  rcases Go.Deep.open_slice1 Tryz.underlying22 cellsU8 h with ⟨rfl, _⟩ | ⟨a, len, cap, m, n, V, D, Pl, rfl, _, hl, hm, hmm, _, hi⟩
  · exact ⟨none, 0, [], rfl, by simp, fun k hk => by simp at hk, by simp⟩
  · have hlm : len ≤ m := by rw [hmm]; split <;> omega
    have hel : ∀ i, i < len → ∃ z : Int, w.cell? (a.add i) = some (.int .u8 z) ∧ 0 ≤ z ∧ z < 256 := fun i hil => by
      obtain ⟨hc, ht⟩ := hi i (by omega)
      obtain ⟨z, hz, _, hwf⟩ := DataW.trod_int Tryz.underlying5 ht
      simp at hz
      exact ⟨z, by rw [hc, hz], u8_wf hwf⟩
    obtain ⟨f, hf⟩ : ∃ f : Nat → Int, ∀ i, i < len → w.cell? (a.add i) = some (.int .u8 (f i)) ∧ 0 ≤ f i ∧ f i < 256 :=
      ⟨fun i => if h : i < len then (hel i h).choose else 0, fun i hil => by simp only [dif_pos hil]; exact (hel i hil).choose_spec⟩
    refine ⟨some a, cap, (List.range len).map f, by simp, by simp [maxLen] at hm; simp; omega, fun k hk => ?_, fun x hx => ?_⟩
    rotate_left
    · simp only [List.mem_map, List.mem_range] at hx
      obtain ⟨k, hk, rfl⟩ := hx
      exact (hf k hk).2
    have hk' : k < len := by simpa using hk
    have hspot : a.spot = none := by
      have h0 := (hf 0 (by omega)).1
      simp only [Addr.add, if_true] at h0
      cases hs : a.spot with
      | none => rfl
      | some s =>
        exfalso
        unfold World.cell? at h0
        split at h0
        · simp [hs] at h0
        · simp at h0
    obtain ⟨b, off, sp⟩ := a
    simp only at hspot
    subst hspot
    have hk2 := (hf k hk').1
    simp only [add_off] at hk2
    exact ⟨b, off, rfl, by rw [hk2]; simp⟩
end

end Go.Proofs.YtnoehaphbpkpjaaGreat
