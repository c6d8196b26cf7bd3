/- Contracts and lemmas for the statements of this seat, written for this claim; each theorem states its own conditions. -/
import Derived.Laws.EntriesVeiled
import Derived.Test.YtnoehaphbpkpjaaGreatFoSt
set_option linter.unusedVariables false
set_option linter.unusedSimpArgs false
namespace Go.Proofs.YtnoehaphbpkpjaaGreat
open Go.RowKit
attribute [local go_sem] addUpon_value addUpon_skip addUpon_enter
/-- columns read as a list -/
def ColCells (w : World) (A : Option Addr) (xs : List Col) : Prop :=
  ∀ k (h : k < xs.length), ∃ b off, A = some ⟨b, off, none⟩ ∧ b < w.heap.size ∧ w.cell? ⟨b, off + k * 3, none⟩ = some (.int .i64 xs[k].w) ∧ w.cell? ⟨b, off + k * 3 + 1, none⟩ = some (.int .i64 xs[k].e) ∧ w.cell? ⟨b, off + k * 3 + 2, none⟩ = some (.int .i64 xs[k].n)
theorem ColCells.below {w w1 : World} {A : Option Addr} {xs : List Col} (h : ColCells w A xs) (hb : Below w.heap.size w w1) : ColCells w1 A xs := by
  intro k hk
  obtain ⟨b, off, hA, hlt, h0, h1, h2⟩ := h k hk
  exact ⟨b, off, hA, Nat.lt_of_lt_of_le hlt hb.size, (hb.cell (p := ⟨b, _, none⟩) hlt).trans h0, (hb.cell (p := ⟨b, _, none⟩) hlt).trans h1, (hb.cell (p := ⟨b, _, none⟩) hlt).trans h2⟩
theorem OwnC.cols {w : World} {B n cx : Nat} {A : Option Addr} {xs : List Col} (h : OwnC w B (.slice A n cx) xs) : ColCells w A xs := by
  intro k hk
  have h0 := h
  obtain ⟨h1, h2⟩ := h
  rcases h2 with ⟨e1, e2⟩ | ⟨g, cap, cur, e1, e2, e3, _⟩
  · omega
  · injection e1 with a1 a2 a3
    subst a1 a2 a3
    have hc := fun j (hj : j < 3) => World.ownsRow.cellAt h0 (k * 3 + j) (by omega)
    have hg := fun j (hj : j < 3) => ccells_get xs k j hk hj
    have c0 := hc 0 (by omega)
    have c1 := hc 1 (by omega)
    have c2 := hc 2 (by omega)
    rw [hg 0 (by omega)] at c0
    rw [hg 1 (by omega)] at c1
    rw [hg 2 (by omega)] at c2
    simp only [Nat.add_zero, List.getElem?_cons_zero, List.getElem?_cons_succ] at c0 c1 c2
    exact ⟨g, 0, rfl, World.block_lt_of_cell? w _ c0, by rw [Nat.zero_add]; exact c0, by rw [Nat.zero_add]; exact c1, by rw [Nat.zero_add]; exact c2⟩
/-- block g holds a strip that is only read any more -/
def StripR (w : World) (g : Nat) (c : Int) (A : Option Addr) (n cx : Nat) (h words : Int) (xs : List Col) : Prop :=
  ∃ C cc, Blk w g [.int .i64 c, .slice A n cx, .int .i64 h, .int .i64 words, .slice C xs.length cc] 103 ∧ ColCells w C xs
theorem StripR.below {w w1 : World} {g : Nat} {c : Int} {A : Option Addr} {n cx : Nat} {h words : Int} {xs : List Col} (hs : StripR w g c A n cx h words xs) (hb : Below w.heap.size w w1) : StripR w1 g c A n cx h words xs := by
  obtain ⟨C, cc, h1, h2⟩ := hs
  exact ⟨C, cc, h1.under hb, h2.below hb⟩
theorem StripSt.read {w : World} {B g : Nat} {c : Int} {A : Option Addr} {n cx : Nat} {h words : Int} {xs : List Col} (hs : StripSt w B g c A n cx h words xs) : StripR w g c A n cx h words xs := by
  obtain ⟨v, h1, h2⟩ := hs
  obtain ⟨C, cc, rfl⟩ := h2.shape
  exact ⟨C, cc, h1, h2.cols⟩
def col0 : Col := ⟨0, 0, 0, 0⟩
def lev (c : Int) (ts : List T4) : Nat → List Col
  | 0 => [⟨-1, 0, 0, -1⟩]
  | i + 1 => (lev c ts i).flatMap (kids c ts (decide (i = 0)))
def upc (c : Int) (ts : List T4) (h : Nat) : Nat → List Col → List Col
  | 0, l => l
  | m + 1, l => upc c ts h m (l.flatMap (kids c ts (decide (m + 1 = h))))
theorem upc_dfs (c : Int) (ts : List T4) (h : Nat) : ∀ (m : Nat) (l : List Col), l.flatMap (dfs c ts h m) = upc c ts h m l
  | 0, l => by
    show l.flatMap (fun k => [k]) = l
    induction l with
    | nil => rfl
    | cons a l ih => simp
  | m + 1, l => by
    show l.flatMap (fun k => (kids c ts (decide (m + 1 = h)) k).flatMap (dfs c ts h m)) = upc c ts h m (l.flatMap (kids c ts (decide (m + 1 = h))))
    rw [← upc_dfs c ts h m, List.flatMap_assoc]
theorem upc_lev (c : Int) (ts : List T4) (h : Nat) : ∀ m, m < h → upc c ts h m (lev c ts (h - m)) = lev c ts h
  | 0, _ => rfl
  | m + 1, hm => by
    show upc c ts h m ((lev c ts (h - (m + 1))).flatMap (kids c ts (decide (m + 1 = h)))) = lev c ts h
    rw [← upc_lev c ts h m (by omega)]
    have e : h - m = (h - (m + 1)) + 1 := by omega
    rw [e]
    show _ = upc c ts h m ((lev c ts (h - (m + 1))).flatMap (kids c ts (decide (h - (m + 1) = 0))))
    rw [show decide (m + 1 = h) = decide (h - (m + 1) = 0) by congr 1; apply propext; constructor <;> intro _ <;> omega]
theorem dfs_lev (c : Int) (ts : List T4) (h : Nat) (hh : 1 ≤ h) : dfs c ts h h col0 = lev c ts h := by
  obtain ⟨m, rfl⟩ : ∃ m, h = m + 1 := ⟨h - 1, by omega⟩
  have e := upc_lev c ts (m + 1) m (by omega)
  rw [← e, show m + 1 - m = 1 by omega]
  show (kids c ts (decide (m + 1 = m + 1)) col0).flatMap (dfs c ts (m + 1) m) = upc c ts (m + 1) m (lev c ts 1)
  rw [← upc_dfs]
  congr 1
  show kids c ts (decide (m + 1 = m + 1)) col0 = [(⟨-1, 0, 0, -1⟩ : Col)].flatMap (kids c ts (decide (0 = 0)))
  have h1 : kid c true col0 = kid c true ⟨-1, 0, 0, -1⟩ := by funext t; simp [kid, col0]
  have h2 : fits true col0 = fits true ⟨-1, 0, 0, -1⟩ := by funext t; simp [fits]
  simp only [decide_true, List.flatMap_cons, List.flatMap_nil, List.append_nil, kids, h1, h2]
/-- the colours of all tiles are less than c -/
def InC (c : Int) (ts : List T4) : Prop := ∀ t ∈ ts, (0 ≤ t.a ∧ t.a < c) ∧ (0 ≤ t.b ∧ t.b < c) ∧ (0 ≤ t.c ∧ t.c < c) ∧ (0 ≤ t.d ∧ t.d < c)
theorem isSetB_inC {c : Int} {ts : List T4} (h : isSetB c ts = true) : InC c ts := by
  obtain ⟨h1, h2, h3⟩ := isSetB_parts h
  intro t ht
  obtain ⟨k, hk, rfl⟩ := List.getElem_of_mem ht
  have h4 := h1 k hk
  unfold okAt at h4
  simp only [Bool.and_eq_true] at h4
  have h5 := h4.1
  rw [getD_at hk] at h5
  have hw : wrap64 (c - 1) = c - 1 := by unfold wrap64; omega
  simp only [isTileB, T4.l, List.all_cons, List.all_nil, Bool.and_eq_true, inR_iff, hw] at h5
  omega
theorem mem_kids {c : Int} {ts : List T4} {f : Bool} {k x : Col} (h : x ∈ kids c ts f k) : ∃ t ∈ ts, fits f k t = true ∧ x = kid c f k t := by
  unfold kids at h
  rw [List.mem_map] at h
  obtain ⟨t, ht, rfl⟩ := h
  rw [List.mem_filter] at ht
  exact ⟨t, ht.1, ht.2, rfl⟩
theorem lev_codes {c : Int} {ts : List T4} (hc : 1 ≤ c) (hI : InC c ts) : ∀ i, ∀ x ∈ lev c ts i, (0 ≤ x.w ∧ x.w < c ^ i) ∧ (0 ≤ x.e ∧ x.e < c ^ i) ∧ (1 ≤ i → 0 ≤ x.n ∧ x.n < c)
  | 0, x, hx => by simp only [lev, List.mem_singleton] at hx; subst hx; simp
  | i + 1, x, hx => by
    have ih := lev_codes hc hI i
    simp only [lev, List.mem_flatMap] at hx
    obtain ⟨k, hk, hx⟩ := hx
    obtain ⟨t, ht, hf, rfl⟩ := mem_kids hx
    obtain ⟨⟨a1, a2⟩, ⟨b1, b2⟩, ⟨c1, c2⟩, _⟩ := hI t ht
    obtain ⟨⟨w1, w2⟩, ⟨e1, e2⟩, n1⟩ := ih k hk
    have p : c ^ (i + 1) = c ^ i * c := Int.pow_succ c i
    have q1 : (k.w + 1) * c ≤ c ^ i * c := Int.mul_le_mul_of_nonneg_right (by omega) (by omega)
    have q2 : (k.e + 1) * c ≤ c ^ i * c := Int.mul_le_mul_of_nonneg_right (by omega) (by omega)
    rw [Int.add_mul, Int.one_mul] at q1 q2
    have r1 : 0 ≤ k.w * c := Int.mul_nonneg w1 (by omega)
    have r2 : 0 ≤ k.e * c := Int.mul_nonneg e1 (by omega)
    simp only [kid]
    refine ⟨⟨by omega, by omega⟩, ⟨by omega, by omega⟩, fun _ => ?_⟩
    by_cases hi : i = 0
    · subst hi; simp; omega
    · simp only [hi, decide_false, Bool.false_eq_true, if_false]; exact n1 (by omega)
theorem lev_len (c : Int) (ts : List T4) : ∀ i, (lev c ts i).length ≤ ts.length ^ i
  | 0 => by simp [lev]
  | i + 1 => by
    have ih := lev_len c ts i
    have hf : ∀ l : List Col, (l.flatMap (kids c ts (decide (i = 0)))).length ≤ l.length * ts.length := by
      intro l
      induction l with
      | nil => simp
      | cons a l ih2 =>
        rw [List.flatMap_cons, List.length_append, List.length_cons, Nat.add_mul, Nat.one_mul]
        have : (kids c ts (decide (i = 0)) a).length ≤ ts.length := by unfold kids; rw [List.length_map]; exact List.length_filter_le ..
        omega
    refine Nat.le_trans (hf _) ?_
    rw [Nat.pow_succ]
    exact Nat.mul_le_mul_right _ ih
theorem pow16 {n h : Nat} (hn : n ≤ 16) (hh : h ≤ 3) : n ^ h ≤ 4096 :=
  Nat.le_trans (Nat.pow_le_pow_left hn h) (Nat.le_trans (Nat.pow_le_pow_right (by decide) hh) (by decide))
def powC (c : Int) (h : Nat) : Int := c ^ h
theorem powC_le {c : Int} (h1 : 1 ≤ c) (h6 : c ≤ 6) : ∀ h, 1 ≤ powC c h ∧ powC c h ≤ 6 ^ h
  | 0 => by simp [powC]
  | h + 1 => by
    obtain ⟨i1, i2⟩ := powC_le h1 h6 h
    have p : powC c (h + 1) = powC c h * c := Int.pow_succ c h
    have q1 : 1 * 1 ≤ powC c h * c := Int.mul_le_mul i1 h1 (by omega) (by omega)
    have q2 : powC c h * c ≤ 6 ^ h * 6 := Int.mul_le_mul i2 h6 (by omega) (by omega)
    rw [Int.pow_succ]
    omega
theorem powC_4 {c : Int} (h1 : 1 ≤ c) (h6 : c ≤ 6) {h : Nat} (hh : h ≤ 4) : 1 ≤ powC c h ∧ powC c h ≤ 1296 := by
  obtain ⟨i1, i2⟩ := powC_le h1 h6 h
  have e : (6 : Int) ^ h ≤ 6 ^ 4 := by
    have := Nat.pow_le_pow_right (n := 6) (by decide) hh
    exact_mod_cast this
  have : (6 : Int) ^ 4 = 1296 := by decide
  omega
theorem size_al (w : World) (o : Obj) : (w.alloc o).heap.size = w.heap.size + 1 := by simp
theorem room_pos : ∀ {m : Nat}, m ≤ 4 → 0 ≤ roomC m
  | 0, _ => by decide
  | 1, _ => by decide
  | 2, _ => by decide
  | 3, _ => by decide
  | 4, _ => by decide
theorem frb_below {w W w2 : World} {B g : Nat} (h : Below w.heap.size w W) (hf : FrB B g W w2) (hg : w.heap.size ≤ g) (hB : w.heap.size ≤ B) : Below w.heap.size w w2 :=
  ⟨hf.os.trans h.os, hf.tape.trans h.tape, hf.output.trans h.output, Nat.le_trans h.size hf.size, fun k hk => (hf.block k (by omega) (by omega)).trans (h.block k hk)⟩
/-- what makes the strip gives back -/
def StripRet (w : World) (c : Int) (ts : List T4) (A : Option Addr) (cx h : Nat) (bad good : Value → Ending) (e : Ending) (w' : World) : Prop :=
  Below w.heap.size w w' ∧ ((700 < powC c h ∧ e = bad (.pointer none)) ∨ (powC c h ≤ 700 ∧ ∃ g, e = good (.pointer (some ⟨g, 0, none⟩)) ∧ w.heap.size ≤ g ∧ StripR w' g c A ts.length cx h (powC c h) (lev c ts h)))
set_option maxRecDepth 100000 in
set_option maxHeartbeats 1000000 in
theorem newStrip_c (c : Int) (ts : List T4) (A : Option Addr) (cx h : Nat) (w : World) (hs : isSetB c ts = true) (hT : TileCells w A ts) (h1' : 1 ≤ h) (h3 : h ≤ 3) :
    Calls Tryz.prog 91 #[.agg #[.int .i64 c, .slice A ts.length cx], .int .i64 h] w (StripRet w c ts A cx h (fun p => .returned (.tuple #[p, .bool false])) (fun p => .returned (.tuple #[p, .bool true]))) := by
  obtain ⟨_, ⟨c1, c6⟩, h16⟩ := isSetB_parts hs
  have HS := Lib.hid hs
  have HT := Lib.hid hT
  clear hs hT
  have HP0 := Lib.hid (show powC c 0 = 1 by simp [powC])
  have HA := Lib.hid (show 0 < ts.length → ∀ b off, A = some ⟨b, off, none⟩ → b < w.heap.size from fun h b off e => by
    obtain ⟨b', off', e', hlt, _⟩ := HT.out 0 h
    rw [e] at e'; injection e' with e'; injection e' with e' _; omega)
  go_enter Tryz.func91, Tryz.ntmps91
  go_wp2_with fail
  go_loopw [13] (fun i wr => ∃ j : Nat, j ≤ h ∧ i = .int .i64 j ∧ Hid (Blk wr w.heap.size [.int .i64 c, .slice A ts.length cx] 32) ∧ Hid (Blk wr (w.heap.size + 1) [.int .i64 h] 2) ∧
    Hid (Blk wr (w.heap.size + 1 + 1) [.int .i64 c, .slice A ts.length cx, .int .i64 h, .int .i64 (powC c j), .slice none 0 0] 103) ∧ Hid (Blk wr (w.heap.size + 1 + 1 + 1) [.pointer (some ⟨w.heap.size + 1 + 1, 0, none⟩)] 72) ∧ Hid (Below w.heap.size w wr) ∧ Hid (w.heap.size + 4 ≤ wr.heap.size)) (fun i _ => h - (intOf i).toNat)
  case atStart =>
    refine ⟨0, by omega, rfl, ?_, ?_, ?_, ?_, Lib.hid (by (repeat (first | (with_reducible exact Below.refl _ _) | (with_reducible assumption) | (with_reducible refine below_al ?_) | (with_reducible refine below_dr ?_) | (with_reducible refine below_drN ?_) | (with_reducible refine below_set ?_ (by first | exact Nat.le_refl _ | (dsimp only; omega) | omega)) | (with_reducible refine below_tr (by with_reducible assumption) ?_)))), Lib.hid (by simp)⟩
    · have h0 : Blk _ _ _ _ := Blk.newA w #[.int .i64 c, .slice A ts.length cx] 32
      exact ((h0.alloc _).alloc _).alloc _
    · have h0 : Blk _ _ _ _ := Blk.newA (w.alloc (.cells #[.int .i64 c, .slice A ts.length cx] 32)) #[.int .i64 h] 2
      rw [size_al] at h0
      exact (h0.alloc _).alloc _
    · rw [HP0.out]
      have h0 : Blk _ _ _ _ := Blk.newA ((w.alloc (.cells #[.int .i64 c, .slice A ts.length cx] 32)).alloc (.cells #[.int .i64 h] 2)) #[.int .i64 c, .slice A ts.length cx, .int .i64 h, .int .i64 1, .slice none 0 0] 103
      rw [size_al, size_al] at h0
      exact h0.alloc _
    · have h0 : Blk _ _ _ _ := Blk.newA (((w.alloc (.cells #[.int .i64 c, .slice A ts.length cx] 32)).alloc (.cells #[.int .i64 h] 2)).alloc (.cells #[.int .i64 c, .slice A ts.length cx, .int .i64 h, .int .i64 1, .slice none 0 0] 103)) #[.pointer (some ⟨w.heap.size + 1 + 1, 0, none⟩)] 72
      rw [size_al, size_al, size_al] at h0
      exact h0
  case round =>
    obtain ⟨j, hj, rfl, HB0, HB1, HB2, HB3, Hb, hsz⟩ := hrel
    by_cases h1 : j < h
    · have c0 := HB0.out.cell 0 (by simp)
      have c3 := HB3.out.cell 0 (by simp)
      have cw := HB2.out.cell 3 (by simp)
      have zw := HB2.out.frozen 3
      simp only [List.getElem_cons_zero, List.getElem_cons_succ] at c0 c3 cw
      have e0 := keepC c0
      have e3 := keepC c3
      have ew := keepC cw
      have fw := fun w1 (h : Below wr.heap.size wr w1) => (h.frozen (p := ⟨w.heap.size + 1 + 1, 3, none⟩) HB2.out.lt).trans zw
      obtain ⟨p1, p2⟩ := powC_4 c1 c6 (h := j) (by omega)
      have hmul : IntKind.i64.wrap (powC c j * c) = powC c (j + 1) := by
        rw [(mulc (by omega) (by omega) (by omega) c6).1]; exact (Int.pow_succ c j).symm
      clear c0 c3 cw zw
      go_wp2_with fail
      refine wp_region_add_tail 9 (fun w' => Below (wr).heap.size (wr) w') (by kernel_rfl) (by kernel_rfl) ((Below.refl _ _).drew) ?_
      simp only [List.take_succ_cons, List.take_zero, List.drop_succ_cons, List.drop_zero]
      repeat (first
        | (refine add_skip rfl (fun K' hK' => ?_); go_simp; refine hK' _ ?_; clear hK' K')
        | (refine add_do (v := ?_) rfl (fun w1 hb => ?_) (fun K' hK' => ?_); rotate_left
           · go_simp
             first
             | (with_reducible exact rfl)
             | (with_reducible exact ⟨rfl, hb⟩)
             | exact rfl
             | exact ⟨rfl, hb⟩
           go_simp; refine hK' _ ?_; clear hK' K'))
      refine add_nil ?_
      intro wa hba
      have zz := fw wa hba
      have HX0 := Lib.hid (HB0.out.under hba)
      have HX1 := Lib.hid (HB1.out.under hba)
      have HX2 := Lib.hid (HB2.out.under hba)
      have HX3 := Lib.hid (HB3.out.under hba)
      have hsa := Lib.hid (Nat.le_trans hsz.out hba.size)
      go_wp2
      go_roundw
      case rel =>
        refine ⟨j + 1, by omega, by go_num, Lib.hid (HX0.out.other (by dsimp only; omega) _), Lib.hid (HX1.out.other (by dsimp only; omega) _), Lib.hid ?_, Lib.hid (HX3.out.other (by dsimp only; omega) _), Lib.hid (by have h3 := Hb.out; (repeat (first | (with_reducible exact Below.refl _ _) | (with_reducible assumption) | (with_reducible refine below_al ?_) | (with_reducible refine below_dr ?_) | (with_reducible refine below_drN ?_) | (with_reducible refine below_set ?_ (by first | exact Nat.le_refl _ | (dsimp only; omega) | omega)) | (with_reducible refine below_tr (by with_reducible assumption) ?_)))), Lib.hid ?_⟩
        · exact HX2.out.set 3 (.int .i64 (powC c (j + 1)))
        · simp [World.setCell]; exact hsa.out
      case measure => simp [intOf]; omega
    · obtain rfl : j = h := by omega
      have c0 := HB0.out.cell 0 (by simp)
      have c3 := HB3.out.cell 0 (by simp)
      have ch := HB1.out.cell 0 (by simp)
      have cw := HB2.out.cell 3 (by simp)
      simp only [List.getElem_cons_zero, List.getElem_cons_succ] at c0 c3 cw ch
      have b0 := HB0.out.lt
      have b1 := HB1.out.lt
      have b2 := HB2.out.lt
      have b3 := HB3.out.lt
      by_cases hw : 700 < powC c j
      · go_wp2
        go_ret2
        exact ⟨Hb.out, .inl ⟨hw, rfl⟩⟩
      · go_wp2_with fail
        have hEnv : StripEnv (wr.alloc (.cells #[.func (.func 119) #[] #[.pointer (some ⟨w.heap.size + 1 + 1 + 1, 0, none⟩), .pointer (some ⟨w.heap.size, 0, none⟩), .pointer (some ⟨w.heap.size + 1, 0, none⟩), .pointer (some ⟨wr.heap.size, 0, none⟩)]] 128)) (wr.heap.size + 1) (w.heap.size + 1 + 1) w.heap.size (w.heap.size + 1) (w.heap.size + 1 + 1 + 1) wr.heap.size c A ts.length cx j :=
          ⟨⟨by omega, by omega, by omega, by omega, by omega⟩, ⟨by omega, by omega, by omega, by have := hsz.out; omega⟩, (HB3.out.alloc _).cell 0 (by simp), (HB0.out.alloc _).cell 0 (by simp), (HB0.out.alloc _).cell 1 (by simp), (HB1.out.alloc _).cell 0 (by simp), cell_alloc_at _ _ _ _ _ rfl⟩
        have HGo := Lib.hid (newStrip1_c (wr.heap.size + 1) (w.heap.size + 1 + 1) w.heap.size (w.heap.size + 1) (w.heap.size + 1 + 1 + 1) wr.heap.size c ts A cx j (powC c j) (isSetB_small HS.out).1 h16 ⟨by omega, c6⟩ (by omega) (fun hl b off e => ⟨by have := HA.out hl b off e; omega, by have := HA.out hl b off e; omega⟩) j (Nat.le_refl _) col0 []
          _ (hEnv.move (FrB.refl _ _ _).drew) (show wr.heap.size + 1 ≤ (World.drew (wr.alloc _)).heap.size by simp) ((HT.out.below Hb.out).below (below_al (Below.refl _ _)).drew) ⟨.slice none 0 0, (HB2.out.alloc _).drew, OwnC.nil _ _⟩ (by have := Nat.le_trans (dfs_len c ts j j col0) (pow16 h16 h3); simp; omega) ⟨Int.le_refl _, by simp [col0]; exact room_pos (by omega)⟩ ⟨Int.le_refl _, by simp [col0]; exact room_pos (by omega)⟩)
        have E6 := fun w1 (h : FrB (wr.heap.size + 1) (w.heap.size + 1 + 1) _ w1) => (hEnv.move h).c6
        have E7 := fun w1 (h : FrB (wr.heap.size + 1) (w.heap.size + 1 + 1) _ w1) => (hEnv.move h).c7
        have E3 := fun w1 (h : FrB (wr.heap.size + 1) (w.heap.size + 1 + 1) _ w1) => (hEnv.move h).c3
        clear c0 c3 ch cw hEnv
        have HbW := Lib.hid (show Below w.heap.size w (wr.alloc (.cells #[.func (.func 119) #[] #[.pointer (some ⟨w.heap.size + 1 + 1 + 1, 0, none⟩), .pointer (some ⟨w.heap.size, 0, none⟩), .pointer (some ⟨w.heap.size + 1, 0, none⟩), .pointer (some ⟨wr.heap.size, 0, none⟩)]] 128)) by have h3 := Hb.out; (repeat (first | (with_reducible exact Below.refl _ _) | (with_reducible assumption) | (with_reducible refine below_al ?_) | (with_reducible refine below_dr ?_) | (with_reducible refine below_drN ?_) | (with_reducible refine below_set ?_ (by first | exact Nat.le_refl _ | (dsimp only; omega) | omega)) | (with_reducible refine below_tr (by with_reducible assumption) ?_))))
        generalize hWW : wr.alloc _ = W at *
        clear hWW
        refine wp_region_mix [(0, true), (1, true), (2, true), (3, false), (4, true), (5, true)] (fun w' => FrB (wr.heap.size + 1) (w.heap.size + 1 + 1) W w') (by kernel_rfl) (by kernel_rfl) (fun _ _ d _ _ h => by cases d <;> exact h) ((FrB.refl _ _ W).drew) ?_
        repeat (first
          | (refine mix_skip rfl rfl (fun K' hK' => ?_); go_simp; refine hK' _ ?_; clear hK' K')
          | (refine mix_do (v := ?_) rfl rfl (fun w1 hb => ?_) (fun K' hK' => ?_); rotate_left
             · go_simp
               rfl
             go_simp; refine hK' _ ?_; clear hK' K'))
        refine mix_call rfl rfl (fun K' hK' => ?_)
        go_simp
        refine (show StripGo _ _ _ _ _ _ c ts A cx j (powC c j) j col0 [] W.drew from HGo.out).mono ?_
        rintro e w2 ⟨rfl, hS2, hF2⟩
        have HF2 := Lib.hid ((FrB.refl (wr.heap.size + 1) (w.heap.size + 1 + 1) W).drew.trans hF2)
        have HS2 := Lib.hid hS2.read
        clear hS2 hF2
        refine hK' _ _ (HF2.out) ?_; clear hK' K'
        repeat (first
          | (refine mix_skip rfl rfl (fun K' hK' => ?_); go_simp; refine hK' _ ?_; clear hK' K')
          | (refine mix_do (v := ?_) rfl rfl (fun w1 hb => ?_) (fun K' hK' => ?_); rotate_left
             · go_simp
               rfl
             go_simp; refine hK' _ ?_; clear hK' K'))
        refine mix_nil ?_
        go_wp2
        go_ret2
        rw [List.nil_append, dfs_lev c ts j h1'] at HS2
        exact ⟨frb_below HbW.out HF2.out (by omega) (by omega), .inr ⟨by omega, _, rfl, by omega, HS2.out⟩⟩

end Go.Proofs.YtnoehaphbpkpjaaGreat
namespace Go.Proofs.YtnoehaphbpkpjaaGreat
open Go.RowKit
set_option maxRecDepth 100000 in
set_option maxHeartbeats 1000000 in
theorem stripOf1_c (h : Int) (b3 : Nat) (w : World) (f0 : w.cell? ⟨b3, 0, none⟩ = some (.int .i64 h)) :
    Calls Tryz.prog 90 #[.pointer (some ⟨b3, 0, none⟩)] w fun e w' => e = .returned (.bool (inR 1 4 h)) ∧ Below w.heap.size w w' := by
  go_enter Tryz.func90, Tryz.ntmps90
  go_wp2_with fail
  refine (within_c h 1 4 _).mono ?_
  rintro e w1 ⟨rfl, rfl⟩
  go_wp2
  go_ret
  exact ⟨rfl, Below.refl _ _⟩
def stripEnd (p : Value) (ok : Int) : Ending := .returned (.tuple #[p, .int .i64 ok])
set_option maxRecDepth 100000 in
set_option maxHeartbeats 1000000 in
theorem stripOf_c (c : Int) (ts : List T4) (A : Option Addr) (cx h : Nat) (w : World) (hs : isSetB c ts = true) (hT : TileCells w A ts) (hl : ts.length ≤ 1000000000) (h1 : 1 ≤ h) (h3 : h ≤ 3) :
    Calls Tryz.prog 51 #[.agg #[.int .i64 c, .slice A ts.length cx], .int .i64 h] w (StripRet w c ts A cx h (fun p => stripEnd p 3) (fun p => stripEnd p 0)) := by
  have hin : inR 1 4 (h : Int) = true := inR_iff.2 (by omega)
  have HC := Lib.hid (fun (wq : World) (hwq : Below w.heap.size w wq) (b3 : Nat) h0 => setCode_c c ts A cx 90 #[.pointer (some ⟨b3, 0, none⟩)] true wq (fun _ _ => rfl) (hT.below hwq) hl
    (fun _ w1 hb => by rw [← hin]; exact stripOf1_c h b3 w1 (keepC h0 _ hb)))
  rw [hs] at HC
  have HN := Lib.hid (fun (wq : World) (hwq : Below w.heap.size w wq) => newStrip_c c ts A cx h wq hs (hT.below hwq) h1 h3)
  clear hT hs hin
  go_enter Tryz.func51, Tryz.ntmps51
  go_wp2_with fail
  refine (HC.out _ (by (repeat (first | (with_reducible exact Below.refl _ _) | (with_reducible assumption) | (with_reducible refine below_al ?_) | (with_reducible refine below_dr ?_) | (with_reducible refine below_drN ?_) | (with_reducible refine below_set ?_ (by first | exact Nat.le_refl _ | (dsimp only; omega) | omega)) | (with_reducible refine below_tr (by with_reducible assumption) ?_)))) _ ?_).mono ?_
  · (repeat (first | (exact cell_al _ _ _ _ _ _ (by simp) rfl) | (refine cell_alloc_old _ _ _ _ _ ?_)))
  rintro e w1 ⟨rfl, hb1⟩
  have Hw1 : Hid (Below w.heap.size w w1) := by (show Below _ _ _); (repeat (first | (with_reducible exact Below.refl _ _) | (with_reducible assumption) | (with_reducible refine below_al ?_) | (with_reducible refine below_dr ?_) | (with_reducible refine below_drN ?_) | (with_reducible refine below_set ?_ (by first | exact Nat.le_refl _ | (dsimp only; omega) | omega)) | (with_reducible refine below_tr (by with_reducible assumption) ?_)))
  have d0 : w1.cell? ⟨w.heap.size, 0, none⟩ = some (.int .i64 c) := by rw [(bcell hb1).1 _ _ (by simp; omega)]; simp
  have d1 : w1.cell? ⟨w.heap.size, 1, none⟩ = some (.slice A ts.length cx) := by rw [(bcell hb1).1 _ _ (by simp; omega)]; simp
  have d2 : w1.cell? ⟨w.heap.size + 1, 0, none⟩ = some (.int .i64 h) := by rw [(bcell hb1).1 _ _ (by simp)]; simp
  have hN : w.heap.size + 1 < w1.heap.size := by have := hb1.size; simp at this; omega
  clear hb1
  rw [show codeB true true = 0 from rfl]
  go_wp2_with fail
  refine (HN.out _ Hw1.out).mono ?_
  rintro e w2 ⟨hb2, ⟨hp, rfl⟩ | ⟨hp, g, rfl, hg, hS⟩⟩
  · have Hw2 := Lib.hid (Hw1.out.trans (hb2.mono Hw1.out.size))
    clear hb2
    go_wp2
    go_ret2
    exact ⟨Hw2.out, .inl ⟨hp, rfl⟩⟩
  · have Hw2 := Lib.hid (Hw1.out.trans (hb2.mono Hw1.out.size))
    have HS := Lib.hid hS
    have hg2 : w.heap.size ≤ g := Nat.le_trans Hw1.out.size hg
    clear hb2 hS hg
    go_wp2
    go_ret2
    exact ⟨Hw2.out, .inr ⟨hp, g, rfl, hg2, HS.out⟩⟩
set_option maxRecDepth 100000 in
set_option maxHeartbeats 1000000 in
theorem traceStrip1_c (h : Int) (k : FuncId) (caps : Array Value) (fine : Bool) (b1 b2 : Nat) (w : World) (hk : ∀ args w, Sem.run Tryz.prog (callFunc k args) w = .ok (.enter k args) w)
    (f0 : w.cell? ⟨b1, 0, none⟩ = some (.int .i64 h)) (f1 : w.cell? ⟨b2, 0, none⟩ = some (.func (.func k) #[] caps))
    (hf : ∀ w1, Below w.heap.size w w1 → Calls Tryz.prog k caps w1 fun e w2 => e = .returned (.bool fine) ∧ Below w1.heap.size w1 w2) :
    Calls Tryz.prog 102 #[.pointer (some ⟨b1, 0, none⟩), .pointer (some ⟨b2, 0, none⟩)] w fun e w' => e = .returned (.bool (inR 1 3 h && fine)) ∧ Below w.heap.size w w' := by
  have HF := Lib.hid hf
  have HR := Lib.hid (fun w => within_c h 1 3 w)
  clear hf
  generalize inR 1 3 h = r at *
  cases r
  · go_enter Tryz.func102, Tryz.ntmps102
    go_wp2_with fail
    refine (HR.out _).mono ?_
    rintro e w1 ⟨rfl, rfl⟩
    go_wp2
    go_ret
    exact ⟨rfl, Below.refl _ _⟩
  · go_enter Tryz.func102, Tryz.ntmps102
    go_wp2_with fail
    refine (HR.out _).mono ?_
    rintro e w1 ⟨rfl, rfl⟩
    go_wp2_with fail
    refine (HF.out _ (Below.refl _ _)).mono ?_
    rintro e w2 ⟨rfl, hb2⟩
    go_wp2
    go_ret
    exact ⟨by first | rfl | simp, hb2⟩
/-- the code of what asks for a strip: h is one of 1 to 3, fine tells whether something more is as told -/
def tsCode (c : Int) (ts : List T4) (h : Int) (fine : Bool) : Int := if isSetB c ts = true then (if (inR 1 3 h && fine) = true then (if 700 < powC c h.toNat then 3 else 0) else 2) else 1
def TraceRet (w : World) (c : Int) (ts : List T4) (A : Option Addr) (cx : Nat) (h : Int) (fine : Bool) (e : Ending) (w' : World) : Prop :=
  Below w.heap.size w w' ∧ ((tsCode c ts h fine ≠ 0 ∧ e = stripEnd (.pointer none) (tsCode c ts h fine)) ∨
    (tsCode c ts h fine = 0 ∧ ∃ g, ∃ n : Nat, h = n ∧ e = stripEnd (.pointer (some ⟨g, 0, none⟩)) 0 ∧ w.heap.size ≤ g ∧ StripR w' g c A ts.length cx n (powC c n) (lev c ts n)))
theorem tsCode_zero {c : Int} {ts : List T4} {h : Int} {fine : Bool} (hz : tsCode c ts h fine = 0) : isSetB c ts = true ∧ fine = true ∧ 1 ≤ h ∧ h ≤ 3 ∧ powC c h.toNat ≤ 700 := by
  unfold tsCode at hz
  by_cases h1 : isSetB c ts = true
  · rw [if_pos h1] at hz
    by_cases h2 : (inR 1 3 h && fine) = true
    · rw [if_pos h2] at hz
      by_cases h3 : 700 < powC c h.toNat
      · rw [if_pos h3] at hz; exact absurd hz (by decide)
      · simp only [Bool.and_eq_true, inR_iff] at h2
        exact ⟨h1, h2.2, h2.1.1, h2.1.2, by omega⟩
    · rw [if_neg h2] at hz; exact absurd hz (by decide)
  · rw [if_neg h1] at hz; exact absurd hz (by decide)
set_option maxRecDepth 100000 in
set_option maxHeartbeats 1000000 in
theorem traceStrip_c (c : Int) (ts : List T4) (A : Option Addr) (cx : Nat) (h : Int) (k : FuncId) (caps : Array Value) (fine : Bool) (w : World) (hk : ∀ args w, Sem.run Tryz.prog (callFunc k args) w = .ok (.enter k args) w)
    (hT : TileCells w A ts) (hl : ts.length ≤ 1000000000)
    (hf : isSetB c ts = true → ∀ w1, Below w.heap.size w w1 → Calls Tryz.prog k caps w1 fun e w2 => e = .returned (.bool fine) ∧ Below w1.heap.size w1 w2) :
    Calls Tryz.prog 63 #[.agg #[.int .i64 c, .slice A ts.length cx], .int .i64 h, .func (.func k) #[] caps] w (TraceRet w c ts A cx h fine) := by
  have HC := Lib.hid (fun (wq : World) (hwq : Below w.heap.size w wq) (b1 b2 : Nat) h0 h1 => setCode_c c ts A cx 102 #[.pointer (some ⟨b1, 0, none⟩), .pointer (some ⟨b2, 0, none⟩)] (inR 1 3 h && fine) wq (fun _ _ => rfl) (hT.below hwq) hl
    (fun hs w1 hb => traceStrip1_c h k caps fine b1 b2 w1 hk (keepC h0 _ hb) (keepC h1 _ hb) (fun w2 hb2 => hf hs w2 (hwq.trans ((hb.trans (hb2.mono hb.size)).mono hwq.size)))))
  have HN := Lib.hid (fun (wq : World) (hwq : Below w.heap.size w wq) (n : Nat) hs hi h3 => stripOf_c c ts A cx n wq hs (hT.below hwq) hl hi h3)
  have hts : tsCode c ts h fine = if isSetB c ts = true then (if (inR 1 3 h && fine) = true then (if 700 < powC c h.toNat then 3 else 0) else 2) else 1 := rfl
  have hin : (inR 1 3 h && fine) = true → 1 ≤ h ∧ h ≤ 3 := fun e => by simp only [Bool.and_eq_true, inR_iff] at e; exact e.1
  unfold TraceRet
  clear hT hf
  generalize (inR 1 3 h && fine) = r at *
  generalize isSetB c ts = s at *
  cases s
  · rw [if_neg (by simp)] at hts
    rw [hts]
    clear hts hin
    go_enter Tryz.func63, Tryz.ntmps63
    go_wp2_with fail
    refine (HC.out _ (by (repeat (first | (with_reducible exact Below.refl _ _) | (with_reducible assumption) | (with_reducible refine below_al ?_) | (with_reducible refine below_dr ?_) | (with_reducible refine below_drN ?_) | (with_reducible refine below_set ?_ (by first | exact Nat.le_refl _ | (dsimp only; omega) | omega)) | (with_reducible refine below_tr (by with_reducible assumption) ?_)))) _ _ ?_ ?_).mono ?_
    · (repeat (first | (exact cell_al _ _ _ _ _ _ (by simp) rfl) | (refine cell_alloc_old _ _ _ _ _ ?_)))
    · (repeat (first | (exact cell_al _ _ _ _ _ _ (by simp) rfl) | (refine cell_alloc_old _ _ _ _ _ ?_)))
    rintro e w1 ⟨rfl, hb1⟩
    have Hw1 : Hid (Below w.heap.size w w1) := by (show Below _ _ _); (repeat (first | (with_reducible exact Below.refl _ _) | (with_reducible assumption) | (with_reducible refine below_al ?_) | (with_reducible refine below_dr ?_) | (with_reducible refine below_drN ?_) | (with_reducible refine below_set ?_ (by first | exact Nat.le_refl _ | (dsimp only; omega) | omega)) | (with_reducible refine below_tr (by with_reducible assumption) ?_)))
    clear hb1
    rw [show codeB false r = 1 from rfl]
    go_wp2
    go_ret2
    exact ⟨Hw1.out, .inl ⟨by decide, rfl⟩⟩
  · rw [if_pos rfl] at hts
    cases r
    · rw [if_neg (by simp)] at hts
      rw [hts]
      clear hts hin
      go_enter Tryz.func63, Tryz.ntmps63
      go_wp2_with fail
      refine (HC.out _ (by (repeat (first | (with_reducible exact Below.refl _ _) | (with_reducible assumption) | (with_reducible refine below_al ?_) | (with_reducible refine below_dr ?_) | (with_reducible refine below_drN ?_) | (with_reducible refine below_set ?_ (by first | exact Nat.le_refl _ | (dsimp only; omega) | omega)) | (with_reducible refine below_tr (by with_reducible assumption) ?_)))) _ _ ?_ ?_).mono ?_
      · (repeat (first | (exact cell_al _ _ _ _ _ _ (by simp) rfl) | (refine cell_alloc_old _ _ _ _ _ ?_)))
      · (repeat (first | (exact cell_al _ _ _ _ _ _ (by simp) rfl) | (refine cell_alloc_old _ _ _ _ _ ?_)))
      rintro e w1 ⟨rfl, hb1⟩
      have Hw1 : Hid (Below w.heap.size w w1) := by (show Below _ _ _); (repeat (first | (with_reducible exact Below.refl _ _) | (with_reducible assumption) | (with_reducible refine below_al ?_) | (with_reducible refine below_dr ?_) | (with_reducible refine below_drN ?_) | (with_reducible refine below_set ?_ (by first | exact Nat.le_refl _ | (dsimp only; omega) | omega)) | (with_reducible refine below_tr (by with_reducible assumption) ?_)))
      clear hb1
      rw [show codeB true false = 2 from rfl]
      go_wp2
      go_ret2
      exact ⟨Hw1.out, .inl ⟨by decide, rfl⟩⟩
    · rw [if_pos rfl] at hts
      obtain ⟨i1, i2⟩ := hin rfl
      obtain ⟨n, rfl⟩ := Int.eq_ofNat_of_zero_le (by omega : 0 ≤ h)
      rw [Int.toNat_natCast] at hts
      clear hin
      have HTS := Lib.hid hts
      clear hts
      go_enter Tryz.func63, Tryz.ntmps63
      go_wp2_with fail
      refine (HC.out _ (by (repeat (first | (with_reducible exact Below.refl _ _) | (with_reducible assumption) | (with_reducible refine below_al ?_) | (with_reducible refine below_dr ?_) | (with_reducible refine below_drN ?_) | (with_reducible refine below_set ?_ (by first | exact Nat.le_refl _ | (dsimp only; omega) | omega)) | (with_reducible refine below_tr (by with_reducible assumption) ?_)))) _ _ ?_ ?_).mono ?_
      · (repeat (first | (exact cell_al _ _ _ _ _ _ (by simp) rfl) | (refine cell_alloc_old _ _ _ _ _ ?_)))
      · (repeat (first | (exact cell_al _ _ _ _ _ _ (by simp) rfl) | (refine cell_alloc_old _ _ _ _ _ ?_)))
      rintro e w1 ⟨rfl, hb1⟩
      have Hw1 : Hid (Below w.heap.size w w1) := by (show Below _ _ _); (repeat (first | (with_reducible exact Below.refl _ _) | (with_reducible assumption) | (with_reducible refine below_al ?_) | (with_reducible refine below_dr ?_) | (with_reducible refine below_drN ?_) | (with_reducible refine below_set ?_ (by first | exact Nat.le_refl _ | (dsimp only; omega) | omega)) | (with_reducible refine below_tr (by with_reducible assumption) ?_)))
      have d0 : w1.cell? ⟨w.heap.size, 0, none⟩ = some (.int .i64 c) := by rw [(bcell hb1).1 _ _ (by simp <;> omega)]; (repeat (first | (exact cell_al _ _ _ _ _ _ (by simp) rfl) | (refine cell_alloc_old _ _ _ _ _ ?_)))
      have d1 : w1.cell? ⟨w.heap.size, 1, none⟩ = some (.slice A ts.length cx) := by rw [(bcell hb1).1 _ _ (by simp <;> omega)]; (repeat (first | (exact cell_al _ _ _ _ _ _ (by simp) rfl) | (refine cell_alloc_old _ _ _ _ _ ?_)))
      have d2 : w1.cell? ⟨w.heap.size + 1, 0, none⟩ = some (.int .i64 n) := by rw [(bcell hb1).1 _ _ (by simp <;> omega)]; (repeat (first | (exact cell_al _ _ _ _ _ _ (by simp) rfl) | (refine cell_alloc_old _ _ _ _ _ ?_)))
      have hN : w.heap.size + 1 < w1.heap.size := by have := hb1.size; simp at this; omega
      clear hb1
      rw [show codeB true true = 0 from rfl]
      go_wp2_with fail
      refine (HN.out _ Hw1.out n (by simp) (by omega) (by omega)).mono ?_
      rintro e w2 ⟨hb2, ⟨hp, rfl⟩ | ⟨hp, g, rfl, hg, hS⟩⟩
      · have Hw2 := Lib.hid (Hw1.out.trans (hb2.mono Hw1.out.size))
        clear hb2
        unfold stripEnd
        go_wp2
        go_ret2
        rw [HTS.out, if_pos hp]
        exact ⟨Hw2.out, .inl ⟨by decide, rfl⟩⟩
      · have Hw2 := Lib.hid (Hw1.out.trans (hb2.mono Hw1.out.size))
        have HS := Lib.hid hS
        have hg2 : w.heap.size ≤ g := Nat.le_trans Hw1.out.size hg
        clear hb2 hS hg
        unfold stripEnd
        go_wp2
        go_ret2
        rw [HTS.out, if_neg (by omega)]
        exact ⟨Hw2.out, .inr ⟨rfl, g, n, rfl, rfl, hg2, HS.out⟩⟩

end Go.Proofs.YtnoehaphbpkpjaaGreat
