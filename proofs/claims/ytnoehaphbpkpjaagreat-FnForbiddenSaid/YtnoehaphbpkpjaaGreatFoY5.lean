/- Contracts and lemmas for the statements of this seat, written for this claim; each theorem states its own conditions. -/
import Derived.Test.YtnoehaphbpkpjaaGreatFoY3
import Derived.Test.YtnoehaphbpkpjaaGreatFoJ3
import Derived.Test.YtnoehaphbpkpjaaGreatFoSu
set_option linter.unusedVariables false
set_option linter.unusedSimpArgs false
namespace Go.Proofs.YtnoehaphbpkpjaaGreat
open Go.RowKit
theorem grown_store {w W : World} {r : Option Nat} {p : Addr} {v : Value} (h : w.grownBy W r) (hp : w.heap.size ≤ p.block) : w.grownBy (W.setCell p v) r :=
  ⟨h.os, h.tape, h.output, by simpa [World.setCell] using h.size, fun k hk hne => (Below.heap_setCell W p v k (by omega)).trans (h.block k hk hne)⟩
theorem grown_al {w W : World} {r : Option Nat} {o : Obj} (h : w.grownBy W r) : w.grownBy (W.alloc o) r := h.trans (World.grownBy_alloc W o r)
theorem Src.store {w : World} {g : Nat} {code : List Int} (h : Src w g code) {p : Addr} {v : Value} (hp : g < p.block) : Src (w.setCell p v) g code :=
  h.move fun k hk => Below.heap_setCell w p v k (by omega)
theorem Src.app {w w1 : World} {g : Nat} {code : List Int} (h : Src w g code) {r : Option Nat} (hg : w.grownBy w1 r) (hr : ∀ k, r = some k → g < k) : Src w1 g code :=
  h.move fun k hk => hg.block k (Nat.lt_of_le_of_lt hk h.lt) (fun e => by have := hr k e.symm; omega)
theorem grown_app {w W w1 : World} {r r' : Option Nat} (h : w.grownBy W r) (hg : W.grownBy w1 r') (hr : ∀ k, r' = some k → w.heap.size ≤ k) : w.grownBy w1 r :=
  ⟨hg.os.trans h.os, hg.tape.trans h.tape, hg.output.trans h.output, Nat.le_trans h.size hg.size, fun k hk hne => (hg.block k (Nat.lt_of_lt_of_le hk h.size) (fun e => by have := hr k e.symm; omega)).trans (h.block k hk hne)⟩
def TIn (c : Int) (t : T4) : Prop := (0 ≤ t.a ∧ t.a < c) ∧ (0 ≤ t.b ∧ t.b < c) ∧ (0 ≤ t.c ∧ t.c < c) ∧ (0 ≤ t.d ∧ t.d < c)
def TileDrawn (w : World) (g : Nat) (code : List Int) (c : Int) (e : Ending) (w' : World) : Prop :=
  ∃ t : T4, e = .returned (.agg #[.int .i64 t.a, .int .i64 t.b, .int .i64 t.c, .int .i64 t.d]) ∧ (1 ≤ c → TIn c t) ∧ Src w' g code ∧ w.grownBy w' (some g)
set_option maxRecDepth 100000 in
set_option maxHeartbeats 1000000 in
theorem l01DrawTile_c (g : Nat) (code : List Int) (c : Int) (w : World) (h : Src w g code) :
    Calls Tryz.prog 138 #[.pointer (some ⟨g, 0, none⟩), .int .i64 c] w (TileDrawn w g code c) := by
  have HS := Lib.hid (h.alloc (.cells #[.int .i64 0, .int .i64 0, .int .i64 0, .int .i64 0] 30))
  have HL := Lib.hid h.lt
  have HG := Lib.hid (World.grownBy.refl (w.alloc (.cells #[.int .i64 0, .int .i64 0, .int .i64 0, .int .i64 0] 30)) (some g))
  clear h
  go_enter Tryz.func138, Tryz.ntmps138
  go_wp2_with fail
  refine (l01Next_c g code _ _ HS.out).mono ?_
  rintro e w1 ⟨r1, rfl, a, b, c, S, G⟩
  have M1 := Lib.hid (And.intro a (And.intro b c))
  replace HG := Lib.hid (HG.out.trans G)
  replace HS := Lib.hid S
  clear S G a b c
  go_wp2_with fail
  refine (l01Next_c g code _ _ HS.out).mono ?_
  rintro e w2 ⟨r2, rfl, a, b, c, S, G⟩
  have M2 := Lib.hid (And.intro a (And.intro b c))
  replace HG := Lib.hid (HG.out.trans G)
  replace HS := Lib.hid S
  clear S G a b c
  go_wp2_with fail
  refine (l01Next_c g code _ _ HS.out).mono ?_
  rintro e w3 ⟨r3, rfl, a, b, c, S, G⟩
  have M3 := Lib.hid (And.intro a (And.intro b c))
  replace HG := Lib.hid (HG.out.trans G)
  replace HS := Lib.hid S
  clear S G a b c
  go_wp2_with fail
  refine (l01Next_c g code _ _ HS.out).mono ?_
  rintro e w4 ⟨r4, rfl, a, b, c, S, G⟩
  have M4 := Lib.hid (And.intro a (And.intro b c))
  replace HG := Lib.hid (HG.out.trans G)
  replace HS := Lib.hid S
  clear S G a b c
  have N := (Blk.newA w #[.int .i64 0, .int .i64 0, .int .i64 0, .int .i64 0] 30).kept1 HG.out (by have := HL.out; intro e; injection e with e; omega)
  have y0 := N.cell 0 (by simp)
  have y1 := N.cell 1 (by simp)
  have y2 := N.cell 2 (by simp)
  have y3 := N.cell 3 (by simp)
  have f0 := N.frozen 0
  have f1 := N.frozen 1
  have f2 := N.frozen 2
  have f3 := N.frozen 3
  simp only [List.getElem_cons_zero, List.getElem_cons_succ] at y0 y1 y2 y3
  have HN := Lib.hid N
  clear N
  go_wp2
  have Z := (((HN.out.set 0 (.int .i64 r1)).set 1 (.int .i64 r2)).set 2 (.int .i64 r3)).set 3 (.int .i64 r4)
  have x0 := Z.cell 0 (by simp)
  have x1 := Z.cell 1 (by simp)
  have x2 := Z.cell 2 (by simp)
  have x3 := Z.cell 3 (by simp)
  simp only [List.set_cons_zero, List.set_cons_succ, List.getElem_cons_zero, List.getElem_cons_succ] at x0 x1 x2 x3
  refine bodyPost_ret (v := .agg #[.int .i64 r1, .int .i64 r2, .int .i64 r3, .int .i64 r4]) (by simp [results, Tryz.results138, go_sem, x0, x1, x2, x3]) rfl ⟨⟨r1, r2, r3, r4⟩, rfl, fun hc => ⟨⟨M1.out.1, M1.out.2.2 hc⟩, ⟨M2.out.1, M2.out.2.2 hc⟩, ⟨M3.out.1, M3.out.2.2 hc⟩, ⟨M4.out.1, M4.out.2.2 hc⟩⟩, ?_, ?_⟩
  · have := HL.out
    exact (((HS.out.store (by dsimp only; omega)).store (by dsimp only; omega)).store (by dsimp only; omega)).store (by dsimp only; omega)
  · exact grown_store (grown_store (grown_store (grown_store ((World.grownBy_alloc w _ _).trans HG.out) (Nat.le_refl _)) (Nat.le_refl _)) (Nat.le_refl _)) (Nat.le_refl _)
/-- a set was drawn -/
def SetDrawn (w : World) (g : Nat) (code : List Int) (B : Nat) (K : Int → List T4 → Prop) (e : Ending) (w' : World) : Prop :=
  ∃ c ts A cx, e = .returned (.agg #[.int .i64 c, .slice A ts.length cx]) ∧ OwnT w' B (.slice A ts.length cx) ts ∧ K c ts ∧ Src w' g code ∧ w.grownBy w' (some g)
theorem OwnT.grew {w w1 : World} {B g : Nat} {v : Value} {ts : List T4} (h : OwnT w B v ts) (hg : w.grownBy w1 (some g)) (hlt : g < B) : OwnT w1 B v ts :=
  World.ownsRow.kept h hg (by cases e : v.ownBlock with | none => exact .inl rfl | some k => exact .inr (fun e2 => by injection e2 with e2; have := (World.ownsRow.lt h k e).1; omega))
theorem OwnT.cells {w : World} {B n cx : Nat} {A : Option Addr} {ts : List T4} (h : OwnT w B (.slice A n cx) ts) : TileCells w A ts := by
  obtain ⟨A', c', e, hT⟩ := h.tiles
  injection e with e
  rw [e]; exact hT
set_option maxRecDepth 100000 in
set_option maxHeartbeats 1000000 in
theorem l01DrawOf_c (g : Nat) (code : List Int) (c n : Int) (w : World) (h : Src w g code) (hc : 1 ≤ c) (hn : n ≤ 100) :
    Calls Tryz.prog 129 #[.pointer (some ⟨g, 0, none⟩), .int .i64 c, .int .i64 n] w (SetDrawn w g code (w.heap.size + 1) fun c' ts => c' = c ∧ (∀ t ∈ ts, TIn c t) ∧ (ts.length : Int) ≤ max n 0) := by
  have HS := Lib.hid h
  clear h
  have HL := Lib.hid HS.out.lt
  go_enter Tryz.func129, Tryz.ntmps129
  go_wp2_with fail
  go_loopw [7, 8] (fun v i wr => ∃ (k : Nat) (ts : List T4), k ≤ n.toNat ∧ i = .int .i64 (n - (k : Nat)) ∧ Hid (OwnT wr (w.heap.size + 1) v ts) ∧ Hid (ts.length = k) ∧ Hid (∀ t ∈ ts, TIn c t) ∧ Hid (Src wr g code) ∧ Hid ((w.alloc (.cells #[.int .i64 0, .slice none 0 0] 32)).grownBy wr (some g))) (fun _ i _ => (intOf i).toNat)
  case atStart =>
    refine ⟨0, [], by omega, by simp, ?_, rfl, fun x hx => by simp at hx, (HS.out.alloc _).alloc _, World.grownBy_alloc _ _ _⟩
    have := OwnT.empty (w.alloc (.cells #[.int .i64 0, .slice none 0 0] 32)) (w.heap.size + 1) (by simp)
    rw [World.size_alloc] at this
    exact this
  case round =>
    obtain ⟨k, ts, hk, rfl, HO, HLn, HA, HSr, HG⟩ := hrel
    obtain ⟨A, cx, rfl, -⟩ := HO.out.tiles
    by_cases hkn : (k : Int) < n
    · have hpos : 0 < n - (k : Int) := by omega
      have hlo : n - (k : Int) ≤ 1000 := by omega
      go_wp2_with fail
      refine (l01DrawTile_c g code c _ HSr.out).mono ?_
      rintro e w1 ⟨t, rfl, ht, S, G⟩
      have HO1 := Lib.hid (HO.out.grew G (by have := HL.out; omega))
      have HG1 := Lib.hid (HG.out.trans G)
      have HS1 := Lib.hid S
      have HT1 := Lib.hid (ht hc)
      have HLn1 : Hid ((ts ++ [t]).length = k + 1) := by show _ = _; rw [List.length_append, HLn.out]; rfl
      have HSz : Hid (w.heap.size + 1 ≤ w1.heap.size) := by have := HG1.out.size; rw [World.size_alloc] at this; exact this
      clear ht S G
      go_wp2_with (at_builtin; refine Hold.of ?_)
      refine Hold.to ?_
      refine wpl_app_tile rfl (.tmp 15) (.tmp 19) rfl (w.heap.size + 1) _ ts t rfl (HO1.out.alloc _) w1.heap.size rfl (Blk.newA _ _ _) (by have := HLn.out; omega) (by have := HSz.out; simp; omega) (fun v' w' a1 a2 => ?_)
      have O1 := Lib.hid a1
      have hrw : ∀ k, (Value.slice A ts.length cx).ownBlock = some k → w.heap.size + 1 ≤ k := fun k hk => (World.ownsRow.lt HO1.out k hk).1
      have S2 := Lib.hid ((HS1.out.alloc _).app a2 (fun k hk => by have := hrw k hk; have := HL.out; omega))
      have G2 := Lib.hid (grown_app (grown_al HG1.out) a2 (fun k hk => by have := hrw k hk; rw [World.size_alloc]; omega))
      have HA2 : Hid (∀ x ∈ ts ++ [t], TIn c x) := fun x hx => by
        rcases List.mem_append.1 hx with hx | hx
        · exact HA.out x hx
        · have := List.mem_singleton.1 hx; subst this; exact HT1.out
      clear a1 a2 hrw
      go_wp2_with fail
      go_roundw
      case rel => exact ⟨k + 1, ts ++ [t], by omega, by go_num, O1, HLn1, HA2, S2, G2⟩
      case measure => simp [intOf]; omega
    · have hnp : ¬ (0 < n - (k : Int)) := by omega
      have HN : Hid (k = n.toNat) := by show _ = _; omega
      go_wp2_with fail
      refine (l01Made_c c ts A cx wr HO.out.cells (by have := HLn.out; omega)).mono ?_
      rintro e w3 ⟨A', c', rfl, hO3, hb3⟩
      have HK : Hid ((∀ t ∈ setT ts, TIn c t) ∧ ((setT ts).length : Int) ≤ max n 0) := ⟨fun t ht => HA.out t ((setT_mem ts t).1 ht), by have := setT_take_len ts; have := HLn.out; have := HN.out; omega⟩
      have HO3 := Lib.hid hO3
      have HSz : Hid (w.heap.size + 1 ≤ wr.heap.size) := by have := HG.out.size; rw [World.size_alloc] at this; exact this
      have HS3 := Lib.hid (HSr.out.below hb3)
      have HG3 := Lib.hid (HG.out.trans (grown_below hb3 (some g)))
      have HZ := Lib.hid ((Blk.newA w #[.int .i64 0, .slice none 0 0] 32).kept1 HG3.out (by have := HL.out; intro e; injection e with e; omega))
      generalize setT ts = ss at *
      clear hO3 hb3 HO HLn HA HSr HG HN hnp
      have y0 := HZ.out.cell 0 (by simp)
      have y1 := HZ.out.cell 1 (by simp)
      have g0 := HZ.out.frozen 0
      have g1 := HZ.out.frozen 1
      simp only [List.getElem_cons_zero, List.getElem_cons_succ] at y0 y1
      go_wp2
      refine bodyPost_ret (v := .agg #[.int .i64 c, .slice A' ss.length c']) (by
        have x0 := ((HZ.out.set 0 (.int .i64 c)).set 1 (.slice A' ss.length c')).cell 0 (by simp)
        have x1 := ((HZ.out.set 0 (.int .i64 c)).set 1 (.slice A' ss.length c')).cell 1 (by simp)
        simp only [List.set_cons_zero, List.set_cons_succ, List.getElem_cons_zero, List.getElem_cons_succ] at x0 x1
        simp [results, Tryz.results129, go_sem, x0, x1]) rfl ?_
      refine ⟨c, ss, A', c', rfl, ?_, ⟨rfl, HK.out⟩, ?_, ?_⟩
      · have := HSz.out
        exact ((HO3.out.other w.heap.size 0 (by omega) _).other w.heap.size 1 (by omega) _).lower HSz.out
      · have := HL.out
        exact (HS3.out.store (by dsimp only; omega)).store (by dsimp only; omega)
      · exact grown_store (grown_store ((World.grownBy_alloc w _ _).trans HG3.out) (Nat.le_refl _)) (Nat.le_refl _)
def renT (ps : List Int) (t : T4) : T4 := ⟨ps.getD t.a.toNat 0, ps.getD t.b.toNat 0, ps.getD t.c.toNat 0, ps.getD t.d.toNat 0⟩
theorem renT_in {ps : List Int} {n : Int} (h : ∀ x ∈ ps, 0 ≤ x ∧ x < n) {t : T4} (ht : TIn ps.length t) : TIn n (renT ps t) := by
  obtain ⟨h1, h2, h3, h4⟩ := ht
  have q : ∀ x : Int, 0 ≤ x → x < ps.length → 0 ≤ ps.getD x.toNat 0 ∧ ps.getD x.toNat 0 < n := fun x x0 x1 => by
    have : x.toNat < ps.length := by omega
    rw [show ps.getD x.toNat 0 = ps[x.toNat] by simp [this]]
    exact h _ (List.getElem_mem this)
  exact ⟨q _ h1.1 h1.2, q _ h2.1 h2.2, q _ h3.1 h3.2, q _ h4.1 h4.2⟩
theorem grown_drw {w W : World} {r : Option Nat} (h : w.grownBy W r) : w.grownBy W.drew r := ⟨h.os, h.tape, h.output, h.size, h.block⟩
theorem cell_gb {w : World} {b o : Nat} {v : Value} {r : Option Nat} (h : w.cell? ⟨b, o, none⟩ = some v) (hne : some b ≠ r) : ∀ w1, w.grownBy w1 r → w1.cell? ⟨b, o, none⟩ = some v :=
  fun w1 hg => hg.cell h hne
set_option maxRecDepth 100000 in
set_option maxHeartbeats 1000000 in
theorem l01Renamed_c (c : Int) (ts : List T4) (A : Option Addr) (cx : Nat) (ps : List Int) (P : Option Addr) (cp : Nat) (w : World) (hT : TileCells w A ts) (hl : ts.length ≤ 1000) (hP : Cells w P (ints ps)) (hin : ∀ t ∈ ts, TIn ps.length t) :
    Calls Tryz.prog 127 #[.agg #[.int .i64 c, .slice A ts.length cx], .slice P ps.length cp] w fun e w' => ∃ A' cx', e = .returned (.agg #[.int .i64 c, .slice A' (setT (ts.map (renT ps))).length cx']) ∧ OwnT w' w.heap.size (.slice A' (setT (ts.map (renT ps))).length cx') (setT (ts.map (renT ps))) ∧ Below w.heap.size w w' := by
  have HT := Lib.hid hT
  have HP := Lib.hid hP
  have HI := Lib.hid hin
  clear hT hP hin
  go_enter Tryz.func127, Tryz.ntmps127
  go_wp2_with fail
  obtain ⟨w2, hw2⟩ : ∃ w2, w2 = ((w.alloc (.cells #[.int .i64 c, .slice A ts.length cx] 32)).alloc (.cells #[.int .i64 0, .slice none 0 0] 32)) := ⟨_, rfl⟩
  have H2s : Hid (w2.heap.size = w.heap.size + 2) := by rw [hw2]; simp [Hid]
  have H20 : Hid (Blk w2 w.heap.size [.int .i64 c, .slice A ts.length cx] 32) := by rw [hw2]; exact (Blk.newA w _ _).alloc _
  have H21 : Hid (Blk w2 (w.heap.size + 1) [.int .i64 0, .slice none 0 0] 32) := by
    rw [hw2]
    have := Blk.newA (w.alloc (.cells #[.int .i64 c, .slice A ts.length cx] 32)) #[.int .i64 0, .slice none 0 0] 32
    rwa [World.size_alloc] at this
  have H2b : Hid (Below w.heap.size w w2) := by rw [hw2]; exact below_al (below_al (Below.refl _ _))
  have H2e : Hid (OwnT (w2.alloc (.cells #[] 30)) (w.heap.size + 2) (.slice (some ⟨w.heap.size + 2, 0, none⟩) 0 0) []) := by have := OwnT.empty w2 w2.heap.size (Nat.le_refl _); rwa [H2s.out] at this
  rw [← hw2]
  clear hw2
  go_loopw [5, 6] (fun v i wr => ∃ k : Nat, k ≤ ts.length ∧ i = .int .i64 (k : Nat) ∧ Hid (OwnT wr (w.heap.size + 2) v ((ts.take k).map (renT ps))) ∧ Hid (Below w2.heap.size w2 wr)) (fun _ i _ => ts.length - (intOf i).toNat)
  case atStart => exact ⟨0, by omega, rfl, by show OwnT _ _ _ _; simpa using H2e.out, below_al (Below.refl _ _)⟩
  case round =>
    obtain ⟨k, hk, rfl, HO, HB⟩ := hrel
    obtain ⟨L, hL⟩ : ∃ L, L = (ts.take k).map (renT ps) := ⟨_, rfl⟩
    rw [← hL] at HO
    have HL := Lib.hid hL
    clear hL
    obtain ⟨Av, cv, rfl, -⟩ := HO.out.tiles
    have q0 := (H20.out.under HB.out).cell 0 (by simp)
    have q1 := (H20.out.under HB.out).cell 1 (by simp)
    simp only [List.getElem_cons_zero, List.getElem_cons_succ] at q0 q1
    have HBw : Hid (Below w.heap.size w wr) := H2b.out.trans (HB.out.mono H2b.out.size)
    have HSz : Hid (w.heap.size + 2 ≤ wr.heap.size) := by rw [← H2s.out]; exact HB.out.size
    by_cases h1 : k < ts.length
    · obtain ⟨bT, oT, rfl, ltT', c0, c1, c2, c3⟩ := HT.out.below HBw.out k h1
      have HK := Lib.hid (show ts.take (k + 1) = ts.take k ++ [ts[k]] by rw [List.take_succ_eq_append_getElem h1])
      have HIk := HI.out _ (List.getElem_mem h1)
      generalize ts[k] = x at *
      obtain ⟨⟨a0, a1⟩, ⟨b0, b1⟩, ⟨d0, d1⟩, ⟨f0, f1⟩⟩ := HIk
      obtain ⟨xa, xb, xc, xd⟩ := x
      dsimp only at *
      obtain ⟨a, rfl⟩ := Int.eq_ofNat_of_zero_le a0
      obtain ⟨b, rfl⟩ := Int.eq_ofNat_of_zero_le b0
      obtain ⟨d, rfl⟩ := Int.eq_ofNat_of_zero_le d0
      obtain ⟨f, rfl⟩ := Int.eq_ofNat_of_zero_le f0
      have ha : a < ps.length := by omega
      have hb : b < ps.length := by omega
      have hd : d < ps.length := by omega
      have hf : f < ps.length := by omega
      obtain ⟨bP, oP, rfl, ltP', p0⟩ := HP.out.int a ha
      have pz : ∀ q (hq : q < ps.length), w.cell? ⟨bP, oP + q, none⟩ = some (.int .i64 ps[q]) := fun q hq => by
        obtain ⟨_, _, e, _, h⟩ := HP.out.int q hq
        injection e with e
        injection e with e e2
        subst e e2
        exact h
      have hW := HBw.out
      have hz : ∀ q (hq : q < ps.length), wr.cell? ⟨bP, oP + q, none⟩ = some (.int .i64 ps[q]) := fun q hq => keepC (pz q hq) _ hW
      have HR : Hid (renT ps ⟨(a : Int), (b : Int), (d : Int), (f : Int)⟩ = ⟨ps[a], ps[b], ps[d], ps[f]⟩) := by show _ = _; simp [renT, ha, hb, hd, hf]
      have z0 := hz a ha
      have z1 := hz b hb
      have z2 := hz d hd
      have z3 := hz f hf
      generalize ps[a] = ya at *
      generalize ps[b] = yb at *
      generalize ps[d] = yd at *
      generalize ps[f] = yf at *
      clear pz hz p0 a0 b0 d0 f0 a1 b1 d1 f1 hW
      have HLk : Hid (L.length ≤ 1000) := by show _ ≤ _; rw [HL.out, List.length_map, List.length_take]; omega
      go_wp2_with fail
      obtain ⟨wq, hwq⟩ : ∃ wq, wq = wr.alloc (.cells #[.int .i64 (a : Int), .int .i64 (b : Int), .int .i64 (d : Int), .int .i64 (f : Int)] 30) := ⟨_, rfl⟩
      have hrw := World.ownsRow.lt HO.out
      have hn1 : some wr.heap.size ≠ (Value.slice Av L.length cv).ownBlock := fun e => by have := hrw _ e.symm; omega
      have hn2 : some bP ≠ (Value.slice Av L.length cv).ownBlock := fun e => by have := hrw _ e.symm; omega
      have T0 : wq.cell? ⟨wr.heap.size, 0, none⟩ = some (.int .i64 (a : Int)) := by rw [hwq]; exact cell_alloc_at _ _ _ _ _ rfl
      have T1 : wq.cell? ⟨wr.heap.size, 1, none⟩ = some (.int .i64 (b : Int)) := by rw [hwq]; exact cell_alloc_at _ _ _ _ _ rfl
      have T2 : wq.cell? ⟨wr.heap.size, 2, none⟩ = some (.int .i64 (d : Int)) := by rw [hwq]; exact cell_alloc_at _ _ _ _ _ rfl
      have T3 : wq.cell? ⟨wr.heap.size, 3, none⟩ = some (.int .i64 (f : Int)) := by rw [hwq]; exact cell_alloc_at _ _ _ _ _ rfl
      have B1 : Below wr.heap.size wr wq := by rw [hwq]; exact below_al (Below.refl _ _)
      have E0 := cell_gb T0 hn1
      have E1 := cell_gb T1 hn1
      have E2 := cell_gb T2 hn1
      have E3 := cell_gb T3 hn1
      have F0 := cell_gb (keepC z0 _ B1) hn2
      have F1 := cell_gb (keepC z1 _ B1) hn2
      have F2 := cell_gb (keepC z2 _ B1) hn2
      have F3 := cell_gb (keepC z3 _ B1) hn2
      have HOq := Lib.hid (HO.out.below B1)
      have HBq := Lib.hid (HB.out.trans (B1.mono HB.out.size))
      have HSq : Hid (w.heap.size + 2 ≤ wq.heap.size) := Nat.le_trans HSz.out B1.size
      have Hrw : Hid (∀ k, (Value.slice Av L.length cv).ownBlock = some k → w2.heap.size ≤ k) := fun k hk => by have := (hrw k hk).1; have := H2s.out; omega
      rw [← hwq]
      clear hwq T0 T1 T2 T3 z0 z1 z2 z3 B1 hn1 hn2 hrw c0 c1 c2 c3 q0 q1
      refine wp_region_mix [(0, true), (1, true), (2, true), (3, true), (4, true), (5, true), (6, true), (7, true), (8, true), (9, true), (10, true), (11, true), (12, true), (13, true), (14, true), (15, true), (16, true), (17, true), (18, true), (19, true), (20, true), (21, true), (22, false), (23, false), (24, true)] (fun w' => wq.grownBy w' (Value.slice Av L.length cv).ownBlock) (by kernel_rfl) (by kernel_rfl) (fun _ _ d _ _ h => by cases d <;> exact h) (⟨rfl, rfl, rfl, Nat.le_refl _, fun _ _ _ => rfl⟩) ?_
      repeat (first
        | (refine mix_skip rfl rfl (fun K' hK' => ?_); go_simp; refine hK' _ ?_; clear hK' K')
        | (refine mix_do (v := ?_) rfl rfl (fun w1 hb => ?_) (fun K' hK' => ?_); rotate_left
           · go_simp
             rfl
           go_simp; refine hK' _ ?_; clear hK' K'))
      refine mix_call rfl rfl (fun K' hK' => ?_)
      go_simp
      refine hK' _ _ (grown_drw (World.grownBy_alloc wq _ _)) ?_; clear hK' K'
      refine mix_call rfl rfl (fun K' hK' => ?_)
      refine app_tiles (.tmp 21) (.tmp 43) rfl (w.heap.size + 2) _ L [⟨ya, yb, yd, yf⟩] rfl (HOq.out.drew.alloc _) ⟨wq.heap.size, 0, none⟩ 1 rfl (fun j u hj => (OwnT.one wq.drew ⟨ya, yb, yd, yf⟩ (Nat.le_refl _)).all j u hj) (by have := HLk.out; simp; omega) (by have := HSq.out; simp; omega) (fun v' w' a1 a2 a3 => ?_)
      have B2 := Lib.hid (Below.grown (below_al HBq.out.drew) a2 (by have := HBq.out.size; simp; omega) Hrw.out)
      have O1 := Lib.hid a1
      refine hK' _ _ ((grown_drw (World.grownBy_alloc wq _ _)).trans a2) ?_
      clear hK' K' a1 a2 a3 E0 E1 E2 E3 F0 F1 F2 F3
      have HL2 : Hid (L ++ [⟨ya, yb, yd, yf⟩] = (ts.take (k + 1)).map (renT ps)) := by show _ = _; rw [HK.out, List.map_append, ← HL.out, ← HR.out]; rfl
      rw [HL2.out] at O1
      repeat (first
        | (refine mix_skip rfl rfl (fun K' hK' => ?_); go_simp; refine hK' _ ?_; clear hK' K')
        | (refine mix_do (v := ?_) rfl rfl (fun w1 hb => ?_) (fun K' hK' => ?_); rotate_left
           · go_simp
             rfl
           go_simp; refine hK' _ ?_; clear hK' K'))
      refine mix_nil ?_
      go_wp2_with fail
      go_roundw
      case rel => exact ⟨k + 1, by omega, by go_num, O1, B2⟩
      case measure => simp [intOf]; omega
    · obtain rfl : k = ts.length := by omega
      rw [List.take_length] at HL
      go_wp2_with fail
      refine (l01Made_c c L Av cv wr HO.out.cells (by rw [HL.out, List.length_map]; omega)).mono ?_
      rintro e w3 ⟨A', c', rfl, hO3, hb3⟩
      rw [HL.out] at hO3 ⊢
      obtain ⟨ss, hss⟩ : ∃ ss, ss = setT (ts.map (renT ps)) := ⟨_, rfl⟩
      rw [← hss] at hO3 ⊢
      have HSS := Lib.hid hss
      clear hss
      have HO3 := Lib.hid (hO3.lower HSz.out)
      have HW3 := Lib.hid (HBw.out.trans (hb3.mono HBw.out.size))
      have HZ := Lib.hid ((H21.out.under HB.out).under hb3)
      clear hO3 hb3 q0 q1 HO HL
      have y0 := HZ.out.cell 0 (by simp)
      have y1 := HZ.out.cell 1 (by simp)
      have g0 := HZ.out.frozen 0
      have g1 := HZ.out.frozen 1
      simp only [List.getElem_cons_zero, List.getElem_cons_succ] at y0 y1
      go_wp2
      refine bodyPost_ret (v := .agg #[.int .i64 c, .slice A' ss.length c']) (by
        have x0 := ((HZ.out.set 0 (.int .i64 c)).set 1 (.slice A' ss.length c')).cell 0 (by simp)
        have x1 := ((HZ.out.set 0 (.int .i64 c)).set 1 (.slice A' ss.length c')).cell 1 (by simp)
        simp only [List.set_cons_zero, List.set_cons_succ, List.getElem_cons_zero, List.getElem_cons_succ] at x0 x1
        simp [results, Tryz.results127, go_sem, x0, x1]) rfl ?_
      have hW3 := HW3.out
      rw [← HSS.out]
      refine ⟨A', c', rfl, ?_, by (repeat (first | (with_reducible exact Below.refl _ _) | (with_reducible assumption) | (with_reducible refine below_al ?_) | (with_reducible refine below_dr ?_) | (with_reducible refine below_drN ?_) | (with_reducible refine below_set ?_ (by first | exact Nat.le_refl _ | (dsimp only; omega) | omega)) | (with_reducible refine below_tr (by with_reducible assumption) ?_)))⟩
      exact ((HO3.out.other (w.heap.size + 1) 0 (by omega) _).other (w.heap.size + 1) 1 (by omega) _).lower (by omega)

end Go.Proofs.YtnoehaphbpkpjaaGreat
namespace Go.Proofs.YtnoehaphbpkpjaaGreat
open Go.RowKit
theorem isSetB_tin {c : Int} {ts : List T4} (h : isSetB c ts = true) : (∀ t ∈ ts, TIn c t) ∧ 0 ≤ c ∧ c ≤ 6 ∧ ts.length ≤ 16 := by
  have h2 := isSetB_parts h
  refine ⟨fun t ht => ?_, by omega, by omega, h2.2.2⟩
  exact isSetB_inC h t ht
theorem readB_ok (s : ByteArray) : (∀ t ∈ rdT (readB s), TIn (rdC (readB s)) t) ∧ 0 ≤ rdC (readB s) ∧ rdC (readB s) ≤ 6 ∧ (rdT (readB s)).length ≤ 16 := by
  cases h : readB s with
  | none => exact ⟨fun t ht => by simp [rdT] at ht, by simp [rdC], by simp [rdC], by simp [rdT]⟩
  | some x =>
    unfold readB at h
    split at h
    · split at h
      · split at h
        · rename_i hs
          injection h with h
          subst h
          exact isSetB_tin hs
        · cases h
      · cases h
    · cases h
theorem namedTo_ok (s : ByteArray) : ∀ k x, namedTo s k = some x → (∀ t ∈ x.2, TIn x.1 t) ∧ 0 ≤ x.1 ∧ x.1 ≤ 6 ∧ x.2.length ≤ 16
  | 0, x, h => by simp [namedTo] at h
  | k + 1, x, h => by
    unfold namedTo at h
    split at h
    · rename_i y hy
      injection h with h
      subst h
      exact namedTo_ok s k _ hy
    · split at h
      · injection h with h
        subst h
        exact readB_ok _
      · cases h
theorem namedB_ok (s : ByteArray) : (∀ t ∈ rdT (namedB s), TIn (rdC (namedB s)) t) ∧ 0 ≤ rdC (namedB s) ∧ rdC (namedB s) ≤ 6 ∧ (rdT (namedB s)).length ≤ 16 := by
  cases h : namedB s with
  | none => exact ⟨fun t ht => by simp [rdT] at ht, by simp [rdC], by simp [rdC], by simp [rdT]⟩
  | some x => exact namedTo_ok s 8 x h
def SmallK (c : Int) (ts : List T4) : Prop := (∀ t ∈ ts, TIn c t) ∧ 0 ≤ c ∧ c ≤ 6 ∧ ts.length ≤ 16
set_option maxRecDepth 100000 in
set_option maxHeartbeats 4000000 in
theorem l01Small_c (g : Nat) (code : List Int) (w : World) (h : Src w g code) :
    Calls Tryz.prog 101 #[.pointer (some ⟨g, 0, none⟩)] w (SetDrawn w g code w.heap.size SmallK) := by
  have HL := Lib.hid h.lt
  have HS := Lib.hid (h.alloc (.cells #[.int .i64 0, .slice none 0 0] 32))
  have HG := Lib.hid (World.grownBy.refl (w.alloc (.cells #[.int .i64 0, .slice none 0 0] 32)) (some g))
  clear h
  go_enter Tryz.func101, Tryz.ntmps101
  go_wp2_with fail
  refine (l01Next_c g code _ _ HS.out).mono ?_
  rintro e w7 ⟨r7, rfl, a, b, c, S, G⟩
  have M7 := Lib.hid (And.intro a (And.intro b c))
  replace HG := Lib.hid (HG.out.trans G)
  replace HS := Lib.hid S
  clear S G a b c
  have HZ0 : Hid (Blk w7 w.heap.size [.int .i64 0, .slice none 0 0] 32) := (Blk.newA w _ _).kept1 HG.out (by have := HL.out; intro e; injection e with e; omega)
  have HZs : Hid (w.heap.size < w7.heap.size) := HZ0.out.lt
  by_cases h0 : r7 = 0
  · subst h0
    go_wp2_with fail
    refine (l01Names_c _).mono ?_
    rintro e w1 ⟨rfl, hO, hb⟩
    replace HZ0 := Lib.hid (HZ0.out.under hb)
    replace HS := Lib.hid (HS.out.below hb)
    replace HG := Lib.hid (HG.out.trans (grown_below hb (some g)))
    have HN := Lib.hid hO
    have Hb := Lib.hid hb.size
    clear hO hb
    go_wp2_with fail
    have HSn := HS.out
    refine (l01Next_c g code _ _ HSn).mono ?_
    rintro e w8 ⟨r8, rfl, a8, b8, c8, S8, G8⟩
    have HN8 : Hid (OwnS w8 w7.heap.size (.slice (some ⟨w7.heap.size, 0, none⟩) 8 8) namesL) := World.ownsRow.kept HN.out G8 (.inr (by show some w7.heap.size ≠ some g; intro e; injection e with e; have := HZs.out; have := HL.out; omega))
    replace HG := Lib.hid (HG.out.trans G8)
    replace HZ0 : Hid (Blk w8 w.heap.size [.int .i64 0, .slice none 0 0] 32) := HZ0.out.kept1 G8 (by have := HL.out; intro e; injection e with e; omega)
    replace HS := Lib.hid S8
    have HSz8 : Hid (w.heap.size < w8.heap.size) := HZ0.out.lt
    obtain ⟨j, rfl⟩ := Int.eq_ofNat_of_zero_le a8
    have hj : j < 8 := by have := c8 (by omega); omega
    obtain ⟨_, e1, -, hlt, c1⟩ := HN8.out.at_ j (by show j < 8; exact hj)
    injection e1 with e1
    injection e1 with e1
    subst e1
    generalize namesL[j]'(by show j < 8; exact hj) = nm at *
    clear S8 G8 a8 b8 c8 HSn
    go_wp2_with fail
    refine (l01Named_c nm _).mono ?_
    rintro e w9 ⟨A, cx, rfl, hO9, hb9⟩
    obtain ⟨k1, k2, k3, k4⟩ := namedB_ok nm
    generalize rdC (namedB nm) = cc at *
    generalize rdT (namedB nm) = tt at *
    generalize (namedB nm).isSome = bb at *
    have HO9 := Lib.hid hO9
    replace HZ0 := Lib.hid (HZ0.out.under hb9)
    replace HS := Lib.hid (HS.out.below hb9)
    replace HG := Lib.hid (HG.out.trans (grown_below hb9 (some g)))
    have HSz9 : Hid (w8.heap.size ≤ w9.heap.size) := hb9.size
    have HK := Lib.hid k1
    clear hO9 hb9 k1 c1
    go_wp2_with fail
    obtain ⟨wt, hwt⟩ : ∃ wt, wt = w9.alloc (.cells #[.int .i64 cc, .slice A tt.length cx] 32) := ⟨_, rfl⟩
    have HX : Hid (Blk wt w9.heap.size [.int .i64 cc, .slice A tt.length cx] 32) := by rw [hwt]; exact Blk.newA _ _ _
    have Bt : Below w9.heap.size w9 wt := by rw [hwt]; exact below_al (Below.refl _ _)
    rw [← hwt]
    clear hwt
    replace HS := Lib.hid (HS.out.below Bt)
    replace HG := Lib.hid (HG.out.trans (grown_below Bt (some g)))
    replace HZ0 := Lib.hid (HZ0.out.under Bt)
    have HOt := Lib.hid (HO9.out.below Bt)
    clear Bt
    have e0 := fun w1 (h : Blk w1 w9.heap.size [.int .i64 cc, .slice A tt.length cx] 32) => h.cell 0 (by simp)
    have e1 := fun w1 (h : Blk w1 w9.heap.size [.int .i64 cc, .slice A tt.length cx] 32) => h.cell 1 (by simp)
    simp only [List.getElem_cons_zero, List.getElem_cons_succ] at e0 e1
    refine wp_region_mix [(0, true), (1, true), (2, true), (3, true), (4, false), (5, false), (6, false)] (fun w' => Blk w' w9.heap.size [.int .i64 cc, .slice A tt.length cx] 32) (by kernel_rfl) (by kernel_rfl) (fun _ _ d _ _ h => by cases d <;> exact h) (HX.out.drew) ?_
    repeat (first
      | (refine mix_skip rfl rfl (fun K' hK' => ?_); go_simp; refine hK' _ ?_; clear hK' K')
      | (refine mix_do (v := ?_) rfl rfl (fun w1 hb => ?_) (fun K' hK' => ?_); rotate_left
         · go_simp
           rfl
         go_simp; refine hK' _ ?_; clear hK' K'))
    refine mix_call rfl rfl (fun K' hK' => ?_)
    go_simp
    refine (l01DrawOrder_c g code cc _ HS.out.drew (by omega)).mono ?_
    rintro e wo ⟨v, ps, rfl, hOp, hpl, hpi, S, G⟩
    have HXo := Lib.hid (HX.out.drew.kept1 G (by have := HSz8.out; have := HSz9.out; have := HL.out; intro e; injection e with e; omega))
    have HZo := Lib.hid (HZ0.out.drew.kept1 G (by have := HL.out; intro e; injection e with e; omega))
    have HSo := Lib.hid S
    have HGo := Lib.hid ((grown_drw HG.out).trans G)
    have HOto := Lib.hid ((show OwnT wt.drew w8.heap.size (.slice A tt.length cx) tt from HOt.out).grew G (by have := HSz8.out; have := HL.out; omega))
    obtain ⟨P, cp, rfl, hPc, -⟩ := hOp.shape
    have HPc := Lib.hid hPc
    have HPl : Hid ((ps.length : Int) = cc) := by show _ = _; omega
    have HPi := Lib.hid hpi
    clear S G hOp hPc hpl hpi
    refine hK' _ _ (HXo.out) ?_; clear hK' K'
    refine mix_call rfl rfl (fun K' hK' => ?_)
    go_simp
    refine (l01Renamed_c cc tt A cx ps P cp wo HOto.out.cells (by omega) HPc.out (by rw [HPl.out]; exact HK.out)).mono ?_
    rintro e wr ⟨A', cx', rfl, hOr, hbr⟩
    have HXr := Lib.hid (HXo.out.under hbr)
    have HZr := Lib.hid (HZo.out.under hbr)
    have HSr := Lib.hid (HSo.out.below hbr)
    have HGr := Lib.hid (HGo.out.trans (grown_below hbr (some g)))
    have HFk : Hid (SmallK cc (setT (tt.map (renT ps)))) := ⟨fun t ht => by
        obtain ⟨t0, h0, rfl⟩ := List.mem_map.1 ((setT_mem _ t).1 ht)
        exact renT_in HPi.out (by rw [HPl.out]; exact HK.out t0 h0), k2, k3, by have := setT_take_len (tt.map (renT ps)); rw [List.length_map] at this; omega⟩
    generalize setT (tt.map (renT ps)) = ss at *
    have HOr := Lib.hid (hOr.lower (show w.heap.size + 1 ≤ wo.heap.size by have := HGo.out.size; rw [World.size_alloc] at this; exact this))
    clear hOr hbr e0 e1
    refine hK' _ _ (HXr.out) ?_; clear hK' K'
    refine mix_call rfl rfl (fun K' hK' => ?_)
    have y0 := HZr.out.cell 0 (by simp)
    have y1 := HZr.out.cell 1 (by simp)
    have g0 := HZr.out.frozen 0
    have g1 := HZr.out.frozen 1
    simp only [List.getElem_cons_zero, List.getElem_cons_succ] at y0 y1
    go_simp
    have HXf := Lib.hid ((HXr.out.other (a := ⟨w.heap.size, 0, none⟩) (by have := HSz8.out; have := HSz9.out; show w9.heap.size ≠ w.heap.size; omega) (.int .i64 cc)).other (a := ⟨w.heap.size, 1, none⟩) (by have := HSz8.out; have := HSz9.out; show w9.heap.size ≠ w.heap.size; omega) (.slice A' ss.length cx'))
    refine hK' _ _ (HXf.out) ?_; clear hK' K'
    refine mix_nil ?_
    clear y0 y1 g0 g1
    go_wp2
    refine bodyPost_ret (v := .agg #[.int .i64 cc, .slice A' ss.length cx']) (by
      have x0 := ((HZr.out.set 0 (.int .i64 cc)).set 1 (.slice A' ss.length cx')).cell 0 (by simp)
      have x1 := ((HZr.out.set 0 (.int .i64 cc)).set 1 (.slice A' ss.length cx')).cell 1 (by simp)
      simp only [List.set_cons_zero, List.set_cons_succ, List.getElem_cons_zero, List.getElem_cons_succ] at x0 x1
      simp [results, Tryz.results101, go_sem, x0, x1]) rfl ?_
    refine ⟨cc, ss, A', cx', rfl, ?_, HFk.out, ?_, ?_⟩
    · exact OwnT.lower ((HOr.out.other w.heap.size 0 (by omega) _).other w.heap.size 1 (by omega) _) (by omega)
    · have := HL.out
      exact (HSr.out.store (by dsimp only; omega)).store (by dsimp only; omega)
    · exact grown_store (grown_store ((World.grownBy_alloc w _ _).trans HGr.out) (Nat.le_refl _)) (Nat.le_refl _)
  · replace h0 : (r7 == 0) = false := by simp [h0]
    go_wp2_with fail
    refine (pick_new g code _ HS.out _ _ [1, 2, 2, 2, 3] _ rfl rfl (by simp)).mono ?_
    rintro e w1 ⟨r1, rfl, m1, S, G⟩
    have M1 := Lib.hid m1
    replace HG := Lib.hid (HG.out.trans G)
    replace HS := Lib.hid S
    clear S G m1
    go_wp2_with fail
    refine (pick_new g code _ HS.out _ _ [3, 6, 9] _ rfl rfl (by simp)).mono ?_
    rintro e w2 ⟨r2, rfl, m2, S, G⟩
    have M2 := Lib.hid m2
    replace HG := Lib.hid (HG.out.trans G)
    replace HS := Lib.hid S
    clear S G m2
    go_wp2_with fail
    refine (l01Next_c g code _ _ HS.out).mono ?_
    rintro e w3 ⟨r3, rfl, a, b, c, S, G⟩
    have M3 := Lib.hid (And.intro a (And.intro b c))
    replace HG := Lib.hid (HG.out.trans G)
    replace HS := Lib.hid S
    clear S G a b c
    have H1 : 1 ≤ r1 ∧ r1 ≤ 3 := by have := M1.out; simp at this; omega
    have H2 : 1 ≤ r2 ∧ r2 ≤ 9 := by have := M2.out; simp at this; omega
    have H3 : r3 < 9 := by have := M3.out.2.2 H2.1; omega
    go_wp2_with fail
    refine (l01DrawOf_c g code r1 r3 _ HS.out H1.1 (by omega)).mono ?_
    rintro e w4 ⟨c, ss, A', cx', rfl, hO, ⟨rfl, hK, hKl⟩, S, G⟩
    have HZr : Hid (Blk w4 w.heap.size [.int .i64 0, .slice none 0 0] 32) := ((Blk.newA w _ _).kept1 HG.out (by have := HL.out; intro e; injection e with e; omega)).kept1 G (by have := HL.out; intro e; injection e with e; omega)
    have HSr := Lib.hid S
    have HGr := Lib.hid (HG.out.trans G)
    have HFk : Hid (SmallK c ss) := ⟨hK, by omega, by omega, by omega⟩
    have HOr := Lib.hid (hO.lower (show w.heap.size + 1 ≤ _ by have := HG.out.size; rw [World.size_alloc] at this; omega))
    clear S G hO hK hKl
    have y0 := HZr.out.cell 0 (by simp)
    have y1 := HZr.out.cell 1 (by simp)
    have g0 := HZr.out.frozen 0
    have g1 := HZr.out.frozen 1
    simp only [List.getElem_cons_zero, List.getElem_cons_succ] at y0 y1
    go_wp2
    refine bodyPost_ret (v := .agg #[.int .i64 c, .slice A' ss.length cx']) (by
      have x0 := ((HZr.out.set 0 (.int .i64 c)).set 1 (.slice A' ss.length cx')).cell 0 (by simp)
      have x1 := ((HZr.out.set 0 (.int .i64 c)).set 1 (.slice A' ss.length cx')).cell 1 (by simp)
      simp only [List.set_cons_zero, List.set_cons_succ, List.getElem_cons_zero, List.getElem_cons_succ] at x0 x1
      simp [results, Tryz.results101, go_sem, x0, x1]) rfl ?_
    refine ⟨c, ss, A', cx', rfl, ?_, HFk.out, ?_, ?_⟩
    · exact OwnT.lower ((HOr.out.other w.heap.size 0 (by omega) _).other w.heap.size 1 (by omega) _) (by omega)
    · have := HL.out
      exact (HSr.out.store (by dsimp only; omega)).store (by dsimp only; omega)
    · exact grown_store (grown_store ((World.grownBy_alloc w _ _).trans HGr.out) (Nat.le_refl _)) (Nat.le_refl _)

end Go.Proofs.YtnoehaphbpkpjaaGreat
