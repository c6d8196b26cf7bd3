/- Contracts and lemmas for the statements of this seat, written for this claim; each theorem states its own conditions. -/
import Derived.Deep.Cut
import Derived.Deep.RegionHeld3
import Derived.Test.YtnoehaphbpkpjaaGreatFoD1
import Derived.Test.YtnoehaphbpkpjaaGreatFoSe
import Derived.Test.YtnoehaphbpkpjaaGreatFoBk
import Derived.Test.YtnoehaphbpkpjaaGreatFoI3
import Derived.Test.YtnoehaphbpkpjaaGreatFoJ7
import Derived.Test.YtnoehaphbpkpjaaGreatFoBy
import Derived.Test.YtnoehaphbpkpjaaGreatFoAdd
import Derived.Test.YtnoehaphbpkpjaaGreatFoY9
import Derived.Test.YtnoehaphbpkpjaaGreatFoSr
import Derived.Test.YtnoehaphbpkpjaaGreatFoTm1
import Derived.Test.YtnoehaphbpkpjaaGreatFoTr1
set_option linter.unusedVariables false
set_option linter.unusedSimpArgs false
namespace Go.Proofs.YtnoehaphbpkpjaaGreat
open Go.RowKit
/-- a set and two numbers, in new memory -/
def SetHN (w : World) (e : Ending) (w' : World) : Prop :=
  ∃ c ts S cs, ∃ h n : Int, e = .returned (.tuple #[.agg #[.int .i64 c, .slice S ts.length cs], .int .i64 h, .int .i64 n]) ∧ OwnT w' w.heap.size (.slice S ts.length cs) ts ∧ ts.length ≤ 101 ∧ Below w.heap.size w w'
/-- where a draw of a set stands that makes its own source: the result's box lies ahead of the source -/
structure LY (w wr : World) (g : Nat) (code : List Int) : Prop where
  res : Blk wr w.heap.size [.int .i64 0, .slice none 0 0] 32
  src : Src wr g code
  sub : Below w.heap.size w wr
  hg : w.heap.size < g
theorem LY.grow {w wr W : World} {g : Nat} {code : List Int} (h : LY w wr g code) (hS : Src W g code) (hG : wr.grownBy W (some g)) : LY w W g code :=
  ⟨h.res.kept1 hG (by have := h.hg; intro e; injection e with e; omega), hS, below_src h.sub hG (by have := h.hg; omega), h.hg⟩
theorem LY.below {w wr W : World} {g : Nat} {code : List Int} (h : LY w wr g code) (hb : Below wr.heap.size wr W) : LY w W g code :=
  h.grow (h.src.below hb) (grown_below hb _)
theorem LY.start {w w0 w1 : World} {g : Nat} {code : List Int} (hw0 : w0 = w.alloc (.cells #[.int .i64 0, .slice none 0 0] 32)) (hb : Below w0.heap.size w0 w1) (hg : w0.heap.size ≤ g) (hS : Src w1 g code) : LY w w1 g code := by
  have hz : w0.heap.size = w.heap.size + 1 := by rw [hw0]; simp
  have hr : Blk w0 w.heap.size [.int .i64 0, .slice none 0 0] 32 := by rw [hw0]; exact Blk.newA _ _ _
  have hbw : Below w.heap.size w w0 := by rw [hw0]; exact below_al (Below.refl _ _)
  exact ⟨hr.under hb, hS, hbw.trans (hb.mono (by omega)), by omega⟩
theorem LY.fin {w wr : World} {g : Nat} {code : List Int} (h : LY w wr g code) {B n cx : Nat} {A : Option Addr} {ts : List T4} (hO : OwnT wr B (.slice A n cx) ts) (hB : w.heap.size < B) (x y : Value) :
    OwnT ((wr.setCell ⟨w.heap.size, 0, none⟩ x).setCell ⟨w.heap.size, 1, none⟩ y) w.heap.size (.slice A n cx) ts ∧ Below w.heap.size w ((wr.setCell ⟨w.heap.size, 0, none⟩ x).setCell ⟨w.heap.size, 1, none⟩ y) :=
  ⟨((hO.other w.heap.size 0 hB x).other w.heap.size 1 hB y).lower (by omega), (h.sub.setCell (Nat.le_refl _) _).setCell (Nat.le_refl _) _⟩
set_option maxRecDepth 100000 in
set_option maxHeartbeats 1000000 in
theorem l10Draw_c (A : Option Addr) (cx : Nat) (code : List Int) (w : World) (h : BytesC w A code) (hok : BytesOk code) :
    Calls Tryz.prog 62 #[.slice A code.length cx] w (SetHN w) := by
  have HF := Lib.hid (fun (W : World) (hW : Below w.heap.size w W) => l01From_c A cx code W (h.below hW) hok)
  clear h hok
  go_enter Tryz.func62, Tryz.ntmps62
  go_wp2_with fail
  obtain ⟨w0, hw0⟩ : ∃ w0, w0 = w.alloc (.cells #[.int .i64 0, .slice none 0 0] 32) := ⟨_, rfl⟩
  have Hw0 := Lib.hid hw0
  have HBw : Hid (Below w.heap.size w w0) := by rw [hw0]; exact below_al (Below.refl _ _)
  rw [← hw0]
  clear hw0
  refine (HF.out _ HBw.out).mono ?_
  rintro e w1 ⟨g, rfl, hlt, S, hb⟩
  have HQ := Lib.hid (LY.start Hw0.out hb hlt S)
  clear hb hlt S HF Hw0 HBw
  go_wp2_with fail
  refine (l01Next_c g code _ _ HQ.out.src).mono ?_
  rintro e w2 ⟨r2, rfl, _, _, _, S, G⟩
  replace HQ := Lib.hid (HQ.out.grow S G)
  clear S G
  go_wp2_with fail
  refine (pick_new g code _ HQ.out.src _ _ [1, 2, 3, 3, 4, 5, 8, r2] _ rfl rfl (by simp)).mono ?_
  rintro e w3 ⟨n, rfl, _, S, G⟩
  replace HQ := Lib.hid (HQ.out.grow S G)
  clear S G
  go_wp2_with fail
  refine (l01Next_c g code _ _ HQ.out.src).mono ?_
  rintro e w4 ⟨r4, rfl, _, _, _, S, G⟩
  replace HQ := Lib.hid (HQ.out.grow S G)
  clear S G
  by_cases h4 : r4 = 0
  · have h4' : (r4 == 0) = true := by simp [h4]
    clear h4
    go_wp2_with fail
    refine (l01Spoil_c g code _ HQ.out.src).mono ?_
    rintro e w5 ⟨c, ts, S5, cs, rfl, hO, hl, S, G⟩
    have hz := HQ.out.src.lt
    have hg := HQ.out.hg
    replace HQ := Lib.hid (HQ.out.grow S G)
    have HO := Lib.hid (hO.lower (show g + 1 ≤ _ by omega))
    clear S G hO
    go_wp2_with fail
    refine (l01Next_c g code _ _ HQ.out.src).mono ?_
    rintro e w6 ⟨r6, rfl, _, _, _, S, G⟩
    replace HQ := Lib.hid (HQ.out.grow S G)
    replace HO := Lib.hid (HO.out.grew G (by omega))
    clear S G
    go_wp2_with fail
    refine (pick_new g code _ HQ.out.src _ _ [1, 1, 2, r6] _ rfl rfl (by simp)).mono ?_
    rintro e w7 ⟨hh, rfl, _, S, G⟩
    replace HQ := Lib.hid (HQ.out.grow S G)
    replace HO := Lib.hid (HO.out.grew G (by omega))
    clear S G
    have y0 := HQ.out.res.cell 0 (by simp)
    have y1 := HQ.out.res.cell 1 (by simp)
    have g0 := HQ.out.res.frozen 0
    have g1 := HQ.out.res.frozen 1
    simp only [List.getElem_cons_zero, List.getElem_cons_succ] at y0 y1
    go_wp2
    refine bodyPost_ret (v := .tuple #[.agg #[.int .i64 c, .slice S5 ts.length cs], .int .i64 hh, .int .i64 n]) (by
      have x0 := ((HQ.out.res.set 0 (.int .i64 c)).set 1 (.slice S5 ts.length cs)).cell 0 (by simp)
      have x1 := ((HQ.out.res.set 0 (.int .i64 c)).set 1 (.slice S5 ts.length cs)).cell 1 (by simp)
      simp only [List.set_cons_zero, List.set_cons_succ, List.getElem_cons_zero, List.getElem_cons_succ] at x0 x1
      simp [results, Tryz.results62, go_sem, x0, x1]) rfl ?_
    obtain ⟨f1, f2⟩ := HQ.out.fin HO.out (by omega) (.int .i64 c) (.slice S5 ts.length cs)
    exact ⟨c, ts, S5, cs, hh, n, rfl, f1, hl, f2⟩
  · have h4' : (r4 == 0) = false := by simp [h4]
    clear h4
    go_wp2_with fail
    refine (l01Small_c g code _ HQ.out.src).mono ?_
    rintro e w5 ⟨c, ts, S5, cs, rfl, hO, ⟨_, _, _, hl⟩, S, G⟩
    have hz := HQ.out.src.lt
    have hg := HQ.out.hg
    replace HQ := Lib.hid (HQ.out.grow S G)
    have HO := Lib.hid (hO.lower (show g + 1 ≤ _ by omega))
    clear S G hO
    go_wp2_with fail
    refine (pick_new g code _ HQ.out.src _ _ [1, 2, 2, 3] _ rfl rfl (by simp)).mono ?_
    rintro e w7 ⟨hh, rfl, _, S, G⟩
    replace HQ := Lib.hid (HQ.out.grow S G)
    replace HO := Lib.hid (HO.out.grew G (by omega))
    clear S G
    have y0 := HQ.out.res.cell 0 (by simp)
    have y1 := HQ.out.res.cell 1 (by simp)
    have g0 := HQ.out.res.frozen 0
    have g1 := HQ.out.res.frozen 1
    simp only [List.getElem_cons_zero, List.getElem_cons_succ] at y0 y1
    go_wp2
    refine bodyPost_ret (v := .tuple #[.agg #[.int .i64 c, .slice S5 ts.length cs], .int .i64 hh, .int .i64 n]) (by
      have x0 := ((HQ.out.res.set 0 (.int .i64 c)).set 1 (.slice S5 ts.length cs)).cell 0 (by simp)
      have x1 := ((HQ.out.res.set 0 (.int .i64 c)).set 1 (.slice S5 ts.length cs)).cell 1 (by simp)
      simp only [List.set_cons_zero, List.set_cons_succ, List.getElem_cons_zero, List.getElem_cons_succ] at x0 x1
      simp [results, Tryz.results62, go_sem, x0, x1]) rfl ?_
    obtain ⟨f1, f2⟩ := HQ.out.fin HO.out (by omega) (.int .i64 c) (.slice S5 ts.length cs)
    exact ⟨c, ts, S5, cs, hh, n, rfl, f1, by omega, f2⟩
end Go.Proofs.YtnoehaphbpkpjaaGreat
namespace Go.Proofs.YtnoehaphbpkpjaaGreat
open Go.RowKit
theorem OwnT.addr0 {w : World} {B n cx : Nat} {A : Option Addr} {ts : List T4} (h : OwnT w B (.slice A n cx) ts) (h0 : 0 < ts.length) : ∃ g, A = some ⟨g, 0, none⟩ ∧ ts.length ≤ cx ∧ cx ≤ maxLen := by
  obtain ⟨h1, ⟨e, h2⟩ | ⟨g, cap, cur, e, e2, e3, e4, e5, e6, e7⟩⟩ := h
  · omega
  · injection e with a1 a2 a3
    subst a3
    exact ⟨g, a1, e4, e5⟩
/-- where the draw of two sets stands -/
structure LZ (w wr : World) (g : Nat) (code : List Int) (c : Int) (ts : List T4) (A : Option Addr) (cx gT : Nat) : Prop where
  res : Blk wr w.heap.size [.int .i64 0, .slice none 0 0] 32
  rez : Blk wr (w.heap.size + 1) [.int .i64 0, .slice none 0 0] 32
  box : Blk wr gT [.int .i64 c, .slice A ts.length cx] 32
  own : OwnT wr (g + 1) (.slice A ts.length cx) ts
  src : Src wr g code
  sub : Below w.heap.size w wr
  hgT : g < gT
  hg : w.heap.size + 1 < g
theorem LZ.grow {w wr W : World} {g : Nat} {code : List Int} {c : Int} {ts : List T4} {A : Option Addr} {cx gT : Nat} (h : LZ w wr g code c ts A cx gT) (hS : Src W g code) (hG : wr.grownBy W (some g)) : LZ w W g code c ts A cx gT :=
  ⟨h.res.kept1 hG (by have := h.hg; intro e; injection e with e; omega), h.rez.kept1 hG (by have := h.hg; intro e; injection e with e; omega), h.box.kept1 hG (by have := h.hgT; intro e; injection e with e; omega), h.own.grew hG (by omega), hS, below_src h.sub hG (by have := h.hg; omega), h.hgT, h.hg⟩
theorem LZ.below {w wr W : World} {g : Nat} {code : List Int} {c : Int} {ts : List T4} {A : Option Addr} {cx gT : Nat} (h : LZ w wr g code c ts A cx gT) (hb : Below wr.heap.size wr W) : LZ w W g code c ts A cx gT :=
  h.grow (h.src.below hb) (grown_below hb _)
theorem LZ.app {w wr W : World} {g : Nat} {code : List Int} {c : Int} {ts us : List T4} {A : Option Addr} {cx gT B : Nat} {v : Value} (h : LZ w wr g code c ts A cx gT) (hO : OwnT wr B v us) (hB : g < B) (hA : ∀ k, (Value.slice A ts.length cx).ownBlock = some k → k < B) (hG : wr.grownBy W v.ownBlock) : LZ w W g code c ts A cx gT := by
  have hr := World.ownsRow.lt hO
  have hgg := h.hg
  refine ⟨h.res.kept1 hG (own_ne hO h.res (by decide)), h.rez.kept1 hG (own_ne hO h.rez (by decide)), h.box.kept1 hG (own_ne hO h.box (by decide)), World.ownsRow.kept h.own hG ?_, h.src.app hG (fun k hk => by have := (hr k hk).1; omega), h.sub.grown hG h.sub.size (fun k hk => by have := (hr k hk).1; omega), h.hgT, h.hg⟩
  cases e : (Value.slice A ts.length cx).ownBlock with
  | none => exact .inl rfl
  | some k => exact .inr (fun e2 => by have := hA k e; have := (hr k e2.symm).1; omega)
/-- two sets and two numbers -/
def Sets2 (w w' : World) (ts us : List T4) (S U : Option Addr) : Prop := TileCells w' S ts ∧ ts.length ≤ 101 ∧ TileCells w' U us ∧ us.length ≤ 101 ∧ Below w.heap.size w w'
theorem LZ.fin {w wr : World} {g : Nat} {code : List Int} {c : Int} {ts : List T4} {A : Option Addr} {cx gT : Nat} (h : LZ w wr g code c ts A cx gT) (hl : ts.length ≤ 101) {us : List T4} {U : Option Addr} {n cu : Nat} (hU : OwnT wr (g + 1) (.slice U n cu) us) (hn : n = us.length) (hul : us.length ≤ 101) (x y z u : Value) :
    Sets2 w ((((wr.setCell ⟨w.heap.size, 0, none⟩ x).setCell ⟨w.heap.size, 1, none⟩ y).setCell ⟨w.heap.size + 1, 0, none⟩ z).setCell ⟨w.heap.size + 1, 1, none⟩ u) ts us A U := by
  have hg := h.hg
  subst hn
  exact ⟨OwnT.cells ((((h.own.other w.heap.size 0 (by omega) x).other w.heap.size 1 (by omega) y).other (w.heap.size + 1) 0 (by omega) z).other (w.heap.size + 1) 1 (by omega) u), hl,
    OwnT.cells ((((hU.other w.heap.size 0 (by omega) x).other w.heap.size 1 (by omega) y).other (w.heap.size + 1) 0 (by omega) z).other (w.heap.size + 1) 1 (by omega) u), hul,
    (((h.sub.setCell (Nat.le_refl _) _).setCell (Nat.le_refl _) _).setCell (by dsimp only; omega) _).setCell (by dsimp only; omega) _⟩
theorem LZ.start {w w0 w1 w2 : World} {g : Nat} {code : List Int} {c : Int} {ts : List T4} {A : Option Addr} {cx : Nat} (hw0 : w0 = (w.alloc (.cells #[.int .i64 0, .slice none 0 0] 32)).alloc (.cells #[.int .i64 0, .slice none 0 0] 32)) (hb : Below w0.heap.size w0 w1) (hg : w0.heap.size ≤ g)
    (hS1 : Src w1 g code) (hO : OwnT w2 w1.heap.size (.slice A ts.length cx) ts) (hb2 : Below w1.heap.size w1 w2) : LZ w (w2.alloc (.cells #[.int .i64 c, .slice A ts.length cx] 32)) g code c ts A cx w2.heap.size := by
  have hz : w0.heap.size = w.heap.size + 2 := by rw [hw0]; simp
  have hr : Blk w0 w.heap.size [.int .i64 0, .slice none 0 0] 32 := by rw [hw0]; exact (Blk.newA _ _ _).alloc _
  have hr2 : Blk w0 (w.heap.size + 1) [.int .i64 0, .slice none 0 0] 32 := by
    rw [hw0]
    have := Blk.newA (w.alloc (.cells #[.int .i64 0, .slice none 0 0] 32)) #[.int .i64 0, .slice none 0 0] 32
    rwa [World.size_alloc] at this
  have hbw : Below w.heap.size w w0 := by rw [hw0]; exact below_al (below_al (Below.refl _ _))
  have hlt := hS1.lt
  have hz2 := hb2.size
  exact ⟨((hr.under hb).under hb2).alloc _, ((hr2.under hb).under hb2).alloc _, Blk.newA _ _ _, (hO.lower (by omega)).alloc _, (hS1.below hb2).alloc _, below_al (hbw.trans ((hb.trans (hb2.mono (by omega))).mono (by omega))), by omega, by omega⟩
end Go.Proofs.YtnoehaphbpkpjaaGreat
namespace Go.Proofs.YtnoehaphbpkpjaaGreat
open Go.RowKit
/-- the columns lead from a code to a code under a word -/
def Way (cols : List Col) : Nat → List Int → Nat → Prop
  | a, [], b => a = b
  | a, x :: l, b => ∃ k, k ∈ cols ∧ k.n = x ∧ k.w.toNat = a ∧ Way cols k.e.toNat l b
theorem getD_false {l : List Bool} {a : Nat} (h : l.getD a false = true) : a < l.length := by
  rcases Nat.lt_or_ge a l.length with h1 | h1
  · exact h1
  · rw [List.getD_eq_getElem?_getD, List.getElem?_eq_none h1] at h; simp at h
theorem getD_set (l : List Bool) (a b : Nat) (ha : a < l.length) : (l.set a true).getD b false = true ↔ (a = b ∨ l.getD b false = true) := by
  rw [List.getD_eq_getElem?_getD, List.getD_eq_getElem?_getD, List.getElem?_set]
  by_cases h : a = b
  · subst h; simp [ha]
  · simp [h]
theorem tfold_way {S : Nat} (x : Int) (now : List Bool) (b : Nat) : ∀ (cols : List Col) (nx : List Bool), Codes S cols → nx.length = S →
    ((cols.foldl (tstep (some x) now) nx).getD b false = true ↔ (nx.getD b false = true ∨ ∃ k, k ∈ cols ∧ k.n = x ∧ now.getD k.w.toNat false = true ∧ k.e.toNat = b))
  | [], nx, _, _ => by simp
  | k :: cols, nx, hC, hl => by
    have hk := hC k (List.mem_cons_self ..)
    rw [List.foldl_cons, tfold_way x now b cols _ (fun q hq => hC q (List.mem_cons_of_mem _ hq)) (by rw [tstep_len]; exact hl)]
    have hs : (tstep (some x) now nx k).getD b false = true ↔ ((k.n = x ∧ now.getD k.w.toNat false = true ∧ k.e.toNat = b) ∨ nx.getD b false = true) := by
      unfold tstep
      by_cases h : ((some x).all (· == k.n) && now.getD k.w.toNat false) = true
      · rw [if_pos h, getD_set _ _ _ (by omega)]
        simp only [Option.all_some, Bool.and_eq_true, beq_iff_eq] at h
        constructor
        · rintro (h1 | h1)
          · exact .inl ⟨h.1.symm, h.2, h1⟩
          · exact .inr h1
        · rintro (h1 | h1)
          · exact .inl h1.2.2
          · exact .inr h1
      · rw [if_neg h]
        constructor
        · exact .inr
        · rintro (h1 | h1)
          · exact absurd (by simp only [Option.all_some, Bool.and_eq_true, beq_iff_eq]; exact ⟨h1.1.symm, h1.2.1⟩) h
          · exact h1
    rw [hs]
    constructor
    · rintro ((h1 | h1) | ⟨q, q1, q2⟩)
      · exact .inr ⟨k, List.mem_cons_self .., h1⟩
      · exact .inl h1
      · exact .inr ⟨q, List.mem_cons_of_mem _ q1, q2⟩
    · rintro (h1 | ⟨q, q1, q2⟩)
      · exact .inl (.inr h1)
      · rcases List.mem_cons.1 q1 with rfl | q1
        · exact .inl (.inl q2)
        · exact .inr ⟨q, q1, q2⟩
theorem tgo_way {S : Nat} {cols : List Col} (hC : Codes S cols) (x : Int) (now : List Bool) (b : Nat) : (tgo S cols (some x) now).getD b false = true ↔ ∃ k, k ∈ cols ∧ k.n = x ∧ now.getD k.w.toNat false = true ∧ k.e.toNat = b := by
  unfold tgo
  rw [tfold_way x now b cols _ hC (by simp)]
  constructor
  · rintro (h | h)
    · have := getD_false h
      rw [List.length_replicate] at this
      rw [List.getD_eq_getElem?_getD, List.getElem?_replicate, if_pos this] at h
      simp at h
    · exact h
  · exact .inr
theorem trun_way {S : Nat} {cols : List Col} (hC : Codes S cols) (b : Nat) : ∀ (word : List Int) (now : List Bool), (trun S cols now word).getD b false = true ↔ ∃ a, now.getD a false = true ∧ Way cols a word b
  | [], now => by
    show now.getD b false = true ↔ _
    exact ⟨fun h => ⟨b, h, rfl⟩, fun ⟨a, h1, h2⟩ => by have h3 : a = b := h2; rw [← h3]; exact h1⟩
  | x :: l, now => by
    show (trun S cols (tgo S cols (some x) now) l).getD b false = true ↔ _
    rw [trun_way hC b l]
    constructor
    · rintro ⟨a, h1, h2⟩
      obtain ⟨k, k1, k2, k3, k4⟩ := (tgo_way hC x now a).1 h1
      exact ⟨k.w.toNat, k3, k, k1, k2, rfl, by rw [k4]; exact h2⟩
    · rintro ⟨a, h1, k, k1, k2, k3, k4⟩
      exact ⟨k.e.toNat, (tgo_way hC x now _).2 ⟨k, k1, k2, by rw [k3]; exact h1, rfl⟩, k4⟩
theorem contains_getD (l : List Bool) : l.contains true = true ↔ ∃ b, l.getD b false = true := by
  rw [List.contains_iff_mem]
  constructor
  · intro h
    obtain ⟨b, hb, e⟩ := List.getElem_of_mem h
    exact ⟨b, by rw [List.getD_eq_getElem?_getD, List.getElem?_eq_getElem hb, e]; rfl⟩
  · rintro ⟨b, h⟩
    have hb := getD_false h
    rw [List.getD_eq_getElem?_getD, List.getElem?_eq_getElem hb] at h
    have h2 : l[b] = true := h
    rw [← h2]
    exact List.getElem_mem hb
theorem all_getD (S a : Nat) : (List.replicate S true).getD a false = true ↔ a < S := by
  constructor
  · intro h; have := getD_false h; rwa [List.length_replicate] at this
  · intro h; rw [List.getD_eq_getElem?_getD, List.getElem?_replicate, if_pos h]; rfl
theorem traceB_way {S : Nat} {cols : List Col} (hC : Codes S cols) (word : List Int) : traceB S cols word = true ↔ ∃ a b, a < S ∧ Way cols a word b := by
  unfold traceB
  rw [contains_getD]
  constructor
  · rintro ⟨b, h⟩
    obtain ⟨a, h1, h2⟩ := (trun_way hC b word _).1 h
    exact ⟨a, b, (all_getD S a).1 h1, h2⟩
  · rintro ⟨a, b, h1, h2⟩
    exact ⟨b, (trun_way hC b word _).2 ⟨a, (all_getD S a).2 h1, h2⟩⟩
theorem Way.up {c : Int} {ts : List T4} (hc : 1 ≤ c) (hI : InC c ts) {i : Nat} (hi : 1 ≤ i) {b : Nat} : ∀ {word : List Int} {a : Nat}, Way (lev c ts (i + 1)) a word b → Way (lev c ts i) (a / c.toNat) word (b / c.toNat)
  | [], a, h => by have h1 : a = b := h; show a / _ = b / _; rw [h1]
  | x :: l, a, h => by
    obtain ⟨k, k1, k2, k3, k4⟩ := h
    have ih := Way.up hc hI hi k4
    have hk : k ∈ (lev c ts i).flatMap (kids c ts (decide (i = 0))) := k1
    rw [List.mem_flatMap] at hk
    obtain ⟨q, q1, q2⟩ := hk
    unfold kids at q2
    rw [List.mem_map] at q2
    obtain ⟨t, t1, rfl⟩ := q2
    have hT := hI t (List.mem_filter.1 t1).1
    obtain ⟨⟨w1, w2⟩, ⟨e1, e2⟩, _⟩ := lev_codes hc hI i q q1
    have hi0 : decide (i = 0) = false := by simp; omega
    rw [hi0] at k2 k3 ih
    have k2' : q.n = x := k2
    have k3' : (q.w * c + t.a).toNat = a := k3
    have ih' : Way (lev c ts i) ((q.e * c + t.c).toNat / c.toNat) l (b / c.toNat) := ih
    obtain ⟨C, rfl⟩ := Int.eq_ofNat_of_zero_le (by omega : 0 ≤ c)
    obtain ⟨W, hW⟩ := Int.eq_ofNat_of_zero_le w1
    obtain ⟨E, hE⟩ := Int.eq_ofNat_of_zero_le e1
    obtain ⟨A, hA⟩ := Int.eq_ofNat_of_zero_le hT.1.1
    obtain ⟨D, hD⟩ := Int.eq_ofNat_of_zero_le hT.2.2.1.1
    have hAC : A < C := by have := hT.1.2; omega
    have hDC : D < C := by have := hT.2.2.1.2; omega
    have dv : ∀ m p : Nat, p < C → ((m : Int) * (C : Int) + (p : Int)).toNat / C = m := fun m p hp => by
      have e : ((m : Int) * (C : Int) + (p : Int)) = ((p + m * C : Nat) : Int) := by push_cast; omega
      rw [e, Int.toNat_natCast, Nat.add_mul_div_right _ _ (by omega), Nat.div_eq_of_lt hp]; omega
    rw [hE, hD, Int.toNat_natCast, dv E D hDC] at ih'
    rw [hW, hA] at k3'
    refine ⟨q, q1, k2', ?_, by rw [hE, Int.toNat_natCast]; exact ih'⟩
    rw [← k3', Int.toNat_natCast, dv W A hAC, hW, Int.toNat_natCast]
theorem powC_nat (C n : Nat) : (powC (C : Int) n).toNat = C ^ n := by
  show ((C : Int) ^ n).toNat = _
  rw [← Int.natCast_pow, Int.toNat_natCast]
theorem trace_one_down {c : Int} {ts : List T4} (hs : isSetB c ts = true) {i : Nat} (hi : 1 ≤ i) {word : List Int} (h : traceB (powC c (i + 1)).toNat (lev c ts (i + 1)) word = true) : traceB (powC c i).toNat (lev c ts i) word = true := by
  have hc := (isSetB_parts hs).2.1.1
  obtain ⟨a, b, h1, h2⟩ := (traceB_way (lev_Codes hs _) word).1 h
  refine (traceB_way (lev_Codes hs _) word).2 ⟨a / c.toNat, b / c.toNat, ?_, Way.up hc (isSetB_inC hs) hi h2⟩
  obtain ⟨C, rfl⟩ := Int.eq_ofNat_of_zero_le (by omega : 0 ≤ c)
  rw [powC_nat] at h1 ⊢
  rw [Int.toNat_natCast]
  exact (Nat.div_lt_iff_lt_mul (by omega)).2 (by rw [Nat.pow_succ] at h1; exact h1)
theorem trace_down {c : Int} {ts : List T4} (hs : isSetB c ts = true) {word : List Int} {j : Nat} (hj : 1 ≤ j) : ∀ d, traceB (powC c (j + d)).toNat (lev c ts (j + d)) word = true → traceB (powC c j).toNat (lev c ts j) word = true
  | 0, h => h
  | d + 1, h => trace_down hs hj d (trace_one_down hs (by omega) h)
theorem exts_way {S : Nat} {cols : List Col} (hC : Codes S cols) (c : Nat) : ∀ (l : Nat) (now : List Bool), now.length = S → (∃ a, now.getD a false = true) → ∀ word ∈ exts S cols c l now, ∃ a b, now.getD a false = true ∧ Way cols a word b
  | 0, now, _, ⟨a, ha⟩, word, hw => by
    have : word = [] := by simpa [exts] using hw
    subst this
    exact ⟨a, a, ha, rfl⟩
  | l + 1, now, hn, _, word, hw => by
    unfold exts at hw
    rw [List.mem_flatMap] at hw
    obtain ⟨x, _, hx⟩ := hw
    by_cases hq : xsome cols x now (farAt S cols l) = true
    · rw [if_pos hq, List.mem_map] at hx
      obtain ⟨w1, h1, rfl⟩ := hx
      have hfold : ∀ (cs : List Col) (nx : List Bool), Codes S cs → nx.length = S → ∀ b, (cs.foldl (xstep x now (farAt S cols l)) nx).getD b false = true ↔ (nx.getD b false = true ∨ ∃ k, k ∈ cs ∧ ((x : Int) == k.n && now.getD k.w.toNat false && (farAt S cols l).getD k.e.toNat false) = true ∧ k.e.toNat = b) := by
        intro cs
        induction cs with
        | nil => intro nx _ _ b; simp
        | cons k cs ih =>
          intro nx hc hl b
          have hk := hc k (List.mem_cons_self ..)
          rw [List.foldl_cons, ih _ (fun q hq => hc q (List.mem_cons_of_mem _ hq)) (by rw [xstep_len]; exact hl)]
          unfold xstep
          by_cases h : ((x : Int) == k.n && now.getD k.w.toNat false && (farAt S cols l).getD k.e.toNat false) = true
          · rw [if_pos h, getD_set _ _ _ (by omega)]
            constructor
            · rintro ((e | e) | ⟨q, q1, q2⟩)
              · exact .inr ⟨k, List.mem_cons_self .., h, e⟩
              · exact .inl e
              · exact .inr ⟨q, List.mem_cons_of_mem _ q1, q2⟩
            · rintro (e | ⟨q, q1, q2⟩)
              · exact .inl (.inr e)
              · rcases List.mem_cons.1 q1 with rfl | q1
                · exact .inl (.inl q2.2)
                · exact .inr ⟨q, q1, q2⟩
          · rw [if_neg h]
            constructor
            · rintro (e | ⟨q, q1, q2⟩)
              · exact .inl e
              · exact .inr ⟨q, List.mem_cons_of_mem _ q1, q2⟩
            · rintro (e | ⟨q, q1, q2⟩)
              · exact .inl e
              · rcases List.mem_cons.1 q1 with rfl | q1
                · exact absurd q2.1 h
                · exact .inr ⟨q, q1, q2⟩
      have hgo : ∀ b, (xgo S cols x now (farAt S cols l)).getD b false = true ↔ ∃ k, k ∈ cols ∧ ((x : Int) == k.n && now.getD k.w.toNat false && (farAt S cols l).getD k.e.toNat false) = true ∧ k.e.toNat = b := by
        intro b
        unfold xgo
        rw [hfold cols _ hC (by simp)]
        constructor
        · rintro (e | e)
          · have := getD_false e
            rw [List.length_replicate] at this
            rw [List.getD_eq_getElem?_getD, List.getElem?_replicate, if_pos this] at e
            simp at e
          · exact e
        · exact .inr
      unfold xsome at hq
      rw [List.any_eq_true] at hq
      obtain ⟨k, k1, k2⟩ := hq
      obtain ⟨a, b, h2, h3⟩ := exts_way hC c l _ (xgo_len ..) ⟨k.e.toNat, (hgo _).2 ⟨k, k1, k2, rfl⟩⟩ w1 h1
      obtain ⟨q, q1, q2, q3⟩ := (hgo a).1 h2
      simp only [Bool.and_eq_true, beq_iff_eq] at q2
      exact ⟨q.w.toNat, b, q2.1.2, q, q1, q2.1.1.symm, rfl, by rw [q3]; exact h3⟩
    · rw [if_neg hq] at hx
      simp at hx
theorem exts_in (S : Nat) (cols : List Col) (c : Nat) : ∀ (l : Nat) (now : List Bool), ∀ word ∈ exts S cols c l now, word.length = l ∧ ∀ x ∈ word, 0 ≤ x ∧ x < (c : Int)
  | 0, now, word, hw => by
    have : word = [] := by simpa [exts] using hw
    subst this; simp
  | l + 1, now, word, hw => by
    unfold exts at hw
    rw [List.mem_flatMap] at hw
    obtain ⟨x, hx0, hx⟩ := hw
    rw [List.mem_range] at hx0
    split at hx
    · rw [List.mem_map] at hx
      obtain ⟨w1, h1, rfl⟩ := hx
      obtain ⟨i1, i2⟩ := exts_in S cols c l _ w1 h1
      refine ⟨by rw [List.length_cons, i1], fun y hy => ?_⟩
      rcases List.mem_cons.1 hy with rfl | hy
      · omega
      · exact i2 y hy
    · simp at hx
theorem wordB_of {c : Int} {word : List Int} (h : ∀ x ∈ word, 0 ≤ x ∧ x < c) : wordB c word = true := by
  unfold wordB
  rw [List.all_eq_true]
  intro x hx
  have := h x hx
  rw [inR_iff]
  omega
/-- a word that is found is a trace of all heights up to its own -/
theorem tw_trace {c : Int} {ts : List T4} {h n : Int} (hc : ctCode 200 c ts h n = 0) {word : List Int} (hw : word ∈ twVal 200 c ts h n) {b : Int} (b1 : 1 ≤ b) (b2 : b ≤ h) : tsCode c ts b (wordOk c word) = 0 ∧ trV c ts b word = true := by
  unfold twVal at hw
  rw [if_pos hc] at hw
  unfold ctCode at hc
  have hz : tsCode c ts h (inR 1 8 n) = 0 := by
    by_cases e : tsCode c ts h (inR 1 8 n) = 0
    · exact e
    · rw [if_neg e] at hc; exact hc
  obtain ⟨hs, hn, h1, h3, hp⟩ := tsCode_zero hz
  rw [inR_iff] at hn
  obtain ⟨_, ⟨c1, c6⟩, _⟩ := isSetB_parts hs
  obtain ⟨H, rfl⟩ := Int.eq_ofNat_of_zero_le (by omega : 0 ≤ h)
  obtain ⟨B, rfl⟩ := Int.eq_ofNat_of_zero_le (by omega : 0 ≤ b)
  obtain ⟨i1, i2⟩ := exts_in _ _ _ _ _ word hw
  have hwo : wordOk c word = true := by
    unfold wordOk
    rw [Bool.and_eq_true]
    exact ⟨by rw [decide_eq_true_eq, i1]; omega, wordB_of fun x hx => by have := i2 x hx; omega⟩
  have hpow : powC c B ≤ 700 := by
    rw [Int.toNat_natCast] at hp
    obtain ⟨C, rfl⟩ := Int.eq_ofNat_of_zero_le (by omega : 0 ≤ c)
    have e : ∀ m : Nat, powC (C : Int) m = ((C ^ m : Nat) : Int) := fun m => by show (C : Int) ^ m = _; rw [Int.natCast_pow]
    rw [e] at hp ⊢
    have := Nat.pow_le_pow_right (n := C) (by omega) (show B ≤ H by omega)
    omega
  have hcode : tsCode c ts (B : Int) (wordOk c word) = 0 := by
    unfold tsCode
    rw [if_pos hs, if_pos (by rw [hwo, Bool.and_true, inR_iff]; omega), if_neg (by rw [Int.toNat_natCast]; omega)]
  refine ⟨hcode, ?_⟩
  unfold trV
  rw [if_pos hcode, Int.toNat_natCast]
  have hS : (0 : Int) < powC c H := by
    have := (powC_le c1 c6 H).1
    omega
  have hw2 : word ∈ exts (powC c H).toNat (lev c ts H) c.toNat n.toNat (List.replicate (powC c H).toNat true) := hw
  obtain ⟨a, d, a1, a2⟩ := exts_way (lev_Codes hs H) c.toNat n.toNat (List.replicate (powC c H).toNat true) List.length_replicate ⟨0, (all_getD _ _).2 (by omega)⟩ word hw2
  have ht := (traceB_way (lev_Codes hs H) word).2 ⟨a, d, (all_getD _ _).1 a1, a2⟩
  obtain ⟨D, hD⟩ : ∃ D, H = B + D := ⟨H - B, by omega⟩
  rw [hD] at ht
  exact trace_down hs (by omega) D ht
/-- one tile of the counting of the rows over a word -/
def lstep (x : Int) (nx r : List Int) (t : T4) : List Int := if t.b = x then r.set t.a.toNat (min 1000000000000001 (r.getD t.a.toNat 0 + nx.getD t.c.toNat 0)) else r
def lrow (C : Nat) (ts : List T4) (x : Int) (nx : List Int) : List Int := ts.foldl (lstep x nx) (List.replicate C 0)
def lefts (C : Nat) (ts : List T4) : List Int → List (List Int)
  | [] => [List.replicate C 1]
  | x :: l => lrow C ts x ((lefts C ts l).headD []) :: lefts C ts l
def lfirst (C : Nat) (ts : List T4) (word : List Int) : List Int := (lefts C ts word).headD []
theorem lfirst_nil (C : Nat) (ts : List T4) : lfirst C ts [] = List.replicate C 1 := rfl
theorem lfirst_cons (C : Nat) (ts : List T4) (x : Int) (l : List Int) : lfirst C ts (x :: l) = lrow C ts x (lfirst C ts l) := rfl
theorem lefts_cons (C : Nat) (ts : List T4) (word : List Int) : ∃ R, lefts C ts word = lfirst C ts word :: R := by
  cases word with
  | nil => exact ⟨[], rfl⟩
  | cons x l => exact ⟨lefts C ts l, rfl⟩
theorem lefts_len (C : Nat) (ts : List T4) : ∀ word, (lefts C ts word).length = word.length + 1
  | [] => rfl
  | x :: l => by show (_ :: lefts C ts l).length = _; rw [List.length_cons, lefts_len C ts l, List.length_cons]
/-- numbers of a row of counts -/
def LOk (C : Nat) (r : List Int) : Prop := r.length = C ∧ ∀ x ∈ r, 0 ≤ x ∧ x ≤ 1000000000000001
theorem LOk.getD {C : Nat} {r : List Int} (h : LOk C r) (a : Nat) : 0 ≤ r.getD a 0 ∧ r.getD a 0 ≤ 1000000000000001 := by
  rcases Nat.lt_or_ge a r.length with h1 | h1
  · rw [List.getD_eq_getElem?_getD, List.getElem?_eq_getElem h1]; exact h.2 _ (List.getElem_mem h1)
  · rw [List.getD_eq_getElem?_getD, List.getElem?_eq_none h1]; simp
theorem LOk.step {C : Nat} {nx r : List Int} (hn : LOk C nx) (h : LOk C r) (x : Int) (t : T4) : LOk C (lstep x nx r t) := by
  unfold lstep
  split
  · refine ⟨by rw [List.length_set]; exact h.1, fun y hy => ?_⟩
    rcases List.mem_or_eq_of_mem_set hy with hy | rfl
    · exact h.2 y hy
    · have := h.getD t.a.toNat
      have := hn.getD t.c.toNat
      omega
  · exact h
theorem LOk.fold {C : Nat} {nx : List Int} (hn : LOk C nx) (x : Int) : ∀ (ts : List T4) (r : List Int), LOk C r → LOk C (ts.foldl (lstep x nx) r)
  | [], r, h => h
  | t :: ts, r, h => LOk.fold hn x ts _ (LOk.step hn h x t)
theorem lok_rep (C : Nat) (v : Int) (h0 : 0 ≤ v) (h1 : v ≤ 1) : LOk C (List.replicate C v) := ⟨List.length_replicate, fun x hx => by have := (List.mem_replicate.1 hx).2; omega⟩
theorem lfirst_ok (C : Nat) (ts : List T4) : ∀ word, LOk C (lfirst C ts word)
  | [] => lok_rep C 1 (by decide) (by decide)
  | x :: l => LOk.fold (lfirst_ok C ts l) x ts _ (lok_rep C 0 (by decide) (by decide))
theorem lok_take {C : Nat} {ts : List T4} {word : List Int} (x : Int) (j : Nat) : LOk C ((ts.take j).foldl (lstep x (lfirst C ts word)) (List.replicate C 0)) := LOk.fold (lfirst_ok C ts word) x _ _ (lok_rep C 0 (by decide) (by decide))
theorem lfold_pos {C : Nat} {nx : List Int} (hn : LOk C nx) (x : Int) (a : Nat) : ∀ (ts : List T4) (r : List Int), (∀ t ∈ ts, t.a.toNat < C) → LOk C r →
    (0 < (ts.foldl (lstep x nx) r).getD a 0 ↔ (0 < r.getD a 0 ∨ ∃ t, t ∈ ts ∧ t.b = x ∧ t.a.toNat = a ∧ 0 < nx.getD t.c.toNat 0))
  | [], r, _, _ => by simp
  | t :: ts, r, ht, h => by
    have hta := ht t (List.mem_cons_self ..)
    rw [List.foldl_cons, lfold_pos hn x a ts _ (fun q hq => ht q (List.mem_cons_of_mem _ hq)) (LOk.step hn h x t)]
    have hs : 0 < (lstep x nx r t).getD a 0 ↔ (0 < r.getD a 0 ∨ (t.b = x ∧ t.a.toNat = a ∧ 0 < nx.getD t.c.toNat 0)) := by
      have g1 := h.getD t.a.toNat
      have g2 := hn.getD t.c.toNat
      unfold lstep
      by_cases e : t.b = x
      · rw [if_pos e, List.getD_eq_getElem?_getD (l := r.set _ _), List.getElem?_set]
        by_cases e2 : t.a.toNat = a
        · rw [if_pos e2, if_pos (by rw [h.1]; exact hta)]
          rw [← e2]
          simp only [Option.getD_some, e, true_and, true_or]
          omega
        · rw [if_neg e2, ← List.getD_eq_getElem?_getD]
          simp [e2]
      · rw [if_neg e]
        simp [e]
    rw [hs]
    constructor
    · rintro ((e | e) | ⟨q, q1, q2⟩)
      · exact .inl e
      · exact .inr ⟨t, List.mem_cons_self .., e⟩
      · exact .inr ⟨q, List.mem_cons_of_mem _ q1, q2⟩
    · rintro (e | ⟨q, q1, q2⟩)
      · exact .inl (.inl e)
      · rcases List.mem_cons.1 q1 with rfl | q1
        · exact .inl (.inr q2)
        · exact .inr ⟨q, q1, q2⟩
theorem lev_one_mem (c : Int) (ts : List T4) (k : Col) : k ∈ lev c ts 1 ↔ ∃ t, t ∈ ts ∧ k = ⟨t.b, t.a, t.c, t.d⟩ := by
  show k ∈ ([⟨-1, 0, 0, -1⟩] : List Col).flatMap (kids c ts (decide (0 = 0))) ↔ _
  rw [List.mem_flatMap]
  constructor
  · rintro ⟨q, q1, q2⟩
    obtain rfl := List.mem_singleton.1 q1
    unfold kids at q2
    rw [List.mem_map] at q2
    obtain ⟨t, t1, rfl⟩ := q2
    exact ⟨t, (List.mem_filter.1 t1).1, by simp [kid]⟩
  · rintro ⟨t, t1, rfl⟩
    refine ⟨_, List.mem_singleton.2 rfl, ?_⟩
    unfold kids
    rw [List.mem_map]
    exact ⟨t, List.mem_filter.2 ⟨t1, by simp [fits]⟩, by simp [kid]⟩
theorem lfirst_way {c : Int} {ts : List T4} (hI : InC c ts) : ∀ (word : List Int) (a : Nat), a < c.toNat → (0 < (lfirst c.toNat ts word).getD a 0 ↔ ∃ b, Way (lev c ts 1) a word b)
  | [], a, ha => by
    rw [lfirst_nil, List.getD_eq_getElem?_getD, List.getElem?_replicate, if_pos ha]
    exact ⟨fun _ => ⟨a, rfl⟩, fun _ => by decide⟩
  | x :: l, a, ha => by
    have hI2 : ∀ t ∈ ts, t.a.toNat < c.toNat ∧ t.c.toNat < c.toNat := fun t ht => by have := hI t ht; omega
    rw [lfirst_cons]
    unfold lrow
    rw [lfold_pos (lfirst_ok _ ts l) x a ts _ (fun t ht => (hI2 t ht).1) (lok_rep _ 0 (by decide) (by decide))]
    have hz : ¬ 0 < (List.replicate c.toNat (0 : Int)).getD a 0 := by rw [List.getD_eq_getElem?_getD, List.getElem?_replicate, if_pos ha]; simp
    constructor
    · rintro (e | ⟨t, t1, t2, t3, t4⟩)
      · exact absurd e hz
      · obtain ⟨b, hb⟩ := (lfirst_way hI l _ (hI2 t t1).2).1 t4
        exact ⟨b, ⟨t.b, t.a, t.c, t.d⟩, (lev_one_mem c ts _).2 ⟨t, t1, rfl⟩, t2, t3, hb⟩
    · rintro ⟨b, k, k1, k2, k3, k4⟩
      obtain ⟨t, t1, rfl⟩ := (lev_one_mem c ts k).1 k1
      exact .inr ⟨t, t1, k2, k3, (lfirst_way hI l _ (hI2 t t1).2).2 ⟨b, k4⟩⟩
theorem sum_pos : ∀ (r : List Int), (∀ x ∈ r, 0 ≤ x) → (0 ≤ r.sum ∧ (0 < r.sum ↔ ∃ a, 0 < r.getD a 0))
  | [], _ => by simp
  | x :: r, h => by
    obtain ⟨i1, i2⟩ := sum_pos r fun y hy => h y (List.mem_cons_of_mem _ hy)
    have hx := h x (List.mem_cons_self ..)
    rw [List.sum_cons]
    refine ⟨by omega, ?_⟩
    constructor
    · intro hp
      by_cases e : 0 < x
      · exact ⟨0, by simpa using e⟩
      · obtain ⟨a, ha⟩ := i2.1 (by omega)
        exact ⟨a + 1, by simpa using ha⟩
    · rintro ⟨a, ha⟩
      cases a with
      | zero => simp at ha; omega
      | succ a => have := i2.2 ⟨a, by simpa using ha⟩; omega
theorem sum_le {M : Int} : ∀ (r : List Int), (∀ x ∈ r, x ≤ M) → r.sum ≤ r.length * M
  | [], _ => by simp
  | x :: r, h => by
    have i := sum_le r fun y hy => h y (List.mem_cons_of_mem _ hy)
    have hx := h x (List.mem_cons_self ..)
    rw [List.sum_cons, List.length_cons]
    have e : ((r.length + 1 : Nat) : Int) * M = r.length * M + M := by push_cast; rw [Int.add_mul]; omega
    omega
/-- traces of the height 1 are north words of rows -/
theorem trace_over {c : Int} {ts : List T4} (hs : isSetB c ts = true) (word : List Int) : traceB (powC c 1).toNat (lev c ts 1) word = true ↔ 0 < (lfirst c.toNat ts word).sum := by
  rw [traceB_way (lev_Codes hs 1), (sum_pos _ fun x hx => ((lfirst_ok _ ts word).2 x hx).1).2]
  have e : (powC c 1).toNat = c.toNat := by show (c ^ (0 + 1)).toNat = _; rw [Int.pow_succ, Int.pow_zero, Int.one_mul]
  rw [e]
  constructor
  · rintro ⟨a, b, h1, h2⟩
    exact ⟨a, (lfirst_way (isSetB_inC hs) word a h1).2 ⟨b, h2⟩⟩
  · rintro ⟨a, ha⟩
    have hlt : a < c.toNat := by
      rcases Nat.lt_or_ge a (lfirst c.toNat ts word).length with h1 | h1
      · rwa [(lfirst_ok _ ts word).1] at h1
      · rw [List.getD_eq_getElem?_getD, List.getElem?_eq_none h1] at ha; simp at ha
    obtain ⟨b, hb⟩ := (lfirst_way (isSetB_inC hs) word a hlt).1 ha
    exact ⟨a, b, hlt, hb⟩
/-- what the law asks of rows over a word -/
theorem over_facts {c : Int} {ts : List T4} {k : Int} {word : List Int} (hc : tsCode c ts k (wordOk c word) = 0) : isSetB c ts = true ∧ wordOk c word = true ∧ (k = 1 → trV c ts k word = decide (0 < (lfirst c.toNat ts word).sum)) ∧ (trV c ts k word = true → 0 < (lfirst c.toNat ts word).sum) := by
  obtain ⟨hs, hw, h1, h3, hp⟩ := tsCode_zero hc
  obtain ⟨K, rfl⟩ := Int.eq_ofNat_of_zero_le (by omega : 0 ≤ k)
  have hv : trV c ts (K : Int) word = traceB (powC c K).toNat (lev c ts K) word := by unfold trV; rw [if_pos hc, Int.toNat_natCast]
  have hd : trV c ts (K : Int) word = true → 0 < (lfirst c.toNat ts word).sum := fun h => by
    rw [hv] at h
    obtain ⟨D, rfl⟩ : ∃ D, K = 1 + D := ⟨K - 1, by omega⟩
    exact (trace_over hs word).1 (trace_down hs (by omega) D h)
  refine ⟨hs, hw, fun h => ?_, hd⟩
  obtain rfl : K = 1 := by omega
  rw [hv, Bool.eq_iff_iff, trace_over hs word, decide_eq_true_eq]

end Go.Proofs.YtnoehaphbpkpjaaGreat
namespace Go.Proofs.YtnoehaphbpkpjaaGreat
open Go.RowKit
theorem mem_tot9 : ∀ {L : List (List Int)} {r : List Int}, r ∈ L → r.length ≤ tot L
  | x :: L, r, h => by
    have e : tot (x :: L) = x.length + tot L := by simp [tot]
    rcases List.mem_cons.1 h with rfl | h
    · omega
    · have := mem_tot9 h; omega
theorem tw_small (c : Int) (ts : List T4) (h n : Int) : (twVal 200 c ts h n).length ≤ 200 ∧ Short 1000000 (twVal 200 c ts h n) := by
  obtain ⟨h1, _, h3⟩ := twVal_short c ts h n
  exact ⟨h1, fun k hk => by have := mem_tot9 (List.getElem_mem hk); omega⟩

end Go.Proofs.YtnoehaphbpkpjaaGreat
