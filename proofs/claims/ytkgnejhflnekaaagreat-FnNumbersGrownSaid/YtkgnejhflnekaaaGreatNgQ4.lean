/- Contracts and lemmas for the statements of this seat, written for this claim; each theorem states its own conditions. -/
import Derived.Carry
import Derived.Test.YtkgnejhflnekaaaGreatNgQ2
import Derived.Test.YtkgnejhflnekaaaGreatNgI1
set_option linter.unusedVariables false
set_option linter.unusedSimpArgs false
namespace Go.Proofs.YtkgnejhflnekaaaGreat
open Go.RowKit
def kval (x : P22) : Value := .agg #[.int .i64 (x.1 : Int), .int .i64 (x.2 : Int)]
theorem run_equalIn_pair (a b c d : Int) (w : World) : (Op.equalIn 10000 113 (.agg #[.int .i64 a, .int .i64 b]) (.agg #[.int .i64 c, .int .i64 d])).run Tryz.prog w = .ok (decide (a = c ∧ b = d)) w := by
  rw [show (10000 : Nat) = 9998 + 1 + 1 from rfl, Op.equalIn]
  simp only [Sem.run_bind, run_underlying Tryz.underlying113, Result.andThen_ok]
  have z := fun w => Tryz.sizeOf2 w
  simp only [Sem.run_bind, z, Result.andThen_ok]
  have hi := fun (x y : Int) (w : World) => run_equalIn_int (P := Tryz.prog) w 9998 2 .i64 .i64 x y Tryz.underlying2
  have ha := fun w => Tryz.isAgg2 w
  rw [show (forIn [:2] : (Option Bool × Unit) → (Nat → (Option Bool × Unit) → Sem (ForInStep (Option Bool × Unit))) → Sem (Option Bool × Unit)) = forIn [0, 1] from by funext a f; simp [Std.Legacy.Range.forIn_eq_forIn_range', List.range']]
  simp only [List.forIn_cons, List.forIn_nil, Sem.run_bind]
  go_simp
  by_cases h0 : a = c <;> by_cases h1 : b = d <;> simp [h0, h1]
/-- block b is a map whose keys are these pairs, each with the value true -/
def MapP (w : World) (b : Nat) (keys : List P22) : Prop :=
  ∃ es clock, w.heap[b]? = some (.map es clock) ∧ es.toList.map (·.key) = keys.map kval ∧ ∀ e ∈ es.toList, e.val = .bool true
theorem find_run (x : P22) : ∀ (es : List MapEntry) (keys : List P22) (i : Nat) (w : World), es.map (·.key) = keys.map kval → (∀ e ∈ es, e.val = .bool true) →
    ∃ r, (Instr.findAsking 113 (kval x) es i).run Tryz.prog w = .ok r w ∧ ((x ∉ keys ∧ r = none) ∨ (x ∈ keys ∧ ∃ j, r = some (j, .bool true)))
  | [], keys, i, w, hk, _ => by
    have : keys = [] := by cases keys with | nil => rfl | cons _ _ => simp at hk
    subst this
    exact ⟨none, by unfold Instr.findAsking; rfl, .inl ⟨by simp, rfl⟩⟩
  | e :: es, keys, i, w, hk, hv => by
    cases keys with
    | nil => simp at hk
    | cons y keys =>
      simp only [List.map_cons, List.cons.injEq] at hk
      obtain ⟨h1, h2⟩ := hk
      unfold Instr.findAsking
      have he : (Op.equal 113 (kval x) e.key).run Tryz.prog w = .ok (decide (x = y)) w := by
        rw [h1]
        show (Op.equalIn 10000 113 (kval x) (kval y)).run Tryz.prog w = _
        unfold kval
        rw [run_equalIn_pair]
        obtain ⟨x1, x2⟩ := x
        obtain ⟨y1, y2⟩ := y
        rw [show decide (((x1 : Nat) : Int) = (y1 : Nat) ∧ ((x2 : Nat) : Int) = (y2 : Nat)) = decide ((x1, x2) = (y1, y2)) from decide_eq_decide.2 (by rw [Prod.mk.injEq]; omega)]
      rw [Sem.run_bind, he, Result.andThen_ok]
      by_cases hxy : x = y
      · refine ⟨some (i, .bool true), ?_, .inr ⟨by simp [hxy], i, rfl⟩⟩
        rw [decide_eq_true hxy, hv e (by simp)]
        rfl
      · obtain ⟨r, hr, hor⟩ := find_run x es keys (i + 1) w h2 (fun e he => hv e (by simp [he]))
        refine ⟨r, ?_, ?_⟩
        · rw [decide_eq_false hxy]; exact hr
        · rcases hor with ⟨a, b⟩ | ⟨a, b⟩
          · exact .inl ⟨by simp [hxy, a], b⟩
          · exact .inr ⟨by simp [a], b⟩
theorem check_pair (e : Bool) (x : P22) (w : World) : (Instr.checkKey e 10000 113 (kval x)).run Tryz.prog w = .ok () w := by
  rw [show (10000 : Nat) = 9998 + 1 + 1 from rfl, Instr.checkKey]
  unfold kval
  have hz := fun w => Tryz.sizeOf2 w
  have ha := fun w => Tryz.isAgg2 w
  have hi : ∀ (x : Int) (w : World), (Instr.checkKey e (9998 + 1) 2 (.int .i64 x)).run Tryz.prog w = .ok () w := fun x w => by
    rw [Instr.checkKey]
    simp only [Sem.run_bind, run_underlying Tryz.underlying2, Result.andThen_ok]
    rfl
  simp only [Sem.run_bind, run_underlying Tryz.underlying113, Result.andThen_ok]
  rw [show (forIn [:2] : Unit → (Nat → Unit → Sem (ForInStep Unit)) → Sem Unit) = forIn [0, 1] from by funext a f; simp [Std.Legacy.Range.forIn_eq_forIn_range', List.range']]
  simp only [List.forIn_cons, List.forIn_nil, Sem.run_bind]
  go_simp
theorem key_run (x : P22) (es : List MapEntry) (keys : List P22) (w : World) (hk : es.map (·.key) = keys.map kval) (hv : ∀ e ∈ es, e.val = .bool true) :
    ∃ r, (Instr.findKey 113 (kval x) es).run Tryz.prog w = .ok r w ∧ ((x ∉ keys ∧ r = none) ∨ (x ∈ keys ∧ ∃ j, r = some (j, .bool true))) := by
  unfold Instr.findKey
  simp only [Sem.run_bind, run_underlying Tryz.underlying113, Result.andThen_ok]
  cases es with
  | nil =>
    have : keys = [] := by cases keys with | nil => rfl | cons _ _ => simp at hk
    subst this
    exact ⟨none, rfl, .inl ⟨by simp, rfl⟩⟩
  | cons e es => exact find_run x (e :: es) keys 0 w hk hv
theorem MapP.lookup {w : World} {b : Nat} {keys : List P22} (h : MapP w b keys) (x : P22) : (Instr.lookup 112 (.map (some b)) (kval x) false).run Tryz.prog w = .ok (.bool (decide (x ∈ keys))) w := by
  obtain ⟨es, clock, hb, hk, hv⟩ := h
  obtain ⟨r, hr, hor⟩ := key_run x es.toList keys w hk hv
  unfold Instr.lookup
  simp only [Sem.run_bind, run_underlying Tryz.underlying112, Result.andThen_ok]
  have hg : (getObj b).run Tryz.prog w = .ok (.map es clock) w := by simp [getObj, Sem.run, hb]
  simp only [Sem.run_bind, hg, Result.andThen_ok, Sem.run_pure]
  rw [check_pair]
  simp only [Result.andThen_ok]
  rw [hr]
  simp only [Result.andThen_ok]
  rcases hor with ⟨hx, rfl⟩ | ⟨hx, j, rfl⟩
  · rw [decide_eq_false hx]
    have hz := Tryz.zeroValue4
    simp [hz, Sem.run_bind, Sem.run_pure]
  · rw [decide_eq_true hx]
    simp [Sem.run_pure]
theorem MapP.update {w : World} {b : Nat} {keys : List P22} (h : MapP w b keys) (x : P22) (hx : x ∉ keys) : ∃ o, (Instr.mapUpdate 112 (.map (some b)) (kval x) (.bool true)).run Tryz.prog w = .ok () { w with heap := w.heap.setIfInBounds b o } ∧ MapP { w with heap := w.heap.setIfInBounds b o } b (keys ++ [x]) := by
  obtain ⟨es, clock, hb, hk, hv⟩ := h
  obtain ⟨r, hr, hor⟩ := key_run x es.toList keys w hk hv
  rcases hor with ⟨_, rfl⟩ | ⟨hx', _⟩
  · refine ⟨.map (es.push { key := kval x, val := .bool true, born := clock }) (clock + 1), ?_, es.push { key := kval x, val := .bool true, born := clock }, clock + 1, ?_, ?_, ?_⟩
    · unfold Instr.mapUpdate
      simp only [Sem.run_bind, run_underlying Tryz.underlying112, Result.andThen_ok]
      have hg : (getObj b).run Tryz.prog w = .ok (.map es clock) w := by simp [getObj, Sem.run, hb]
      simp only [Sem.run_bind, hg, Result.andThen_ok, Sem.run_pure]
      rw [check_pair]
      simp only [Result.andThen_ok]
      rw [hr]
      simp only [Result.andThen_ok]
      simp [setObj, Sem.run, hb]
    · have := (Array.getElem?_eq_some_iff.1 hb).1
      simp [this]
    · simp [hk]
    · intro e he
      simp only [Array.toList_push, List.mem_append, List.mem_singleton] at he
      rcases he with he | rfl
      · exact hv e he
      · rfl
  · exact absurd hx' hx

end Go.Proofs.YtkgnejhflnekaaaGreat
namespace Go.Proofs.YtkgnejhflnekaaaGreat
open Go.RowKit
theorem wpl_app_rowX {ops : Array Oper} {rest : List Oper} {o : Oper} {a : Act} {W0 W : World} {Q : Exit → Act → World → Prop} (hgd : o.guard = none) (s x : Operand)
    (ho : o.op = .call { callee := .builtin .append, args := #[s, x], argTypes := #[29, 29] }) (B : Nat) (v : Value) (L : List (List Int)) (u : Value) (xs : List Int) (hs : a.eval s = v) (X : Nat → Prop) (hX : ∀ k, X k → k < W0.heap.size) (hown : OwnIX W0 B X v L)
    (hW : Below W0.heap.size W0 W) (hu : OwnI W W0.heap.size u xs)
    (b off : Nat) (hx : a.eval x = .slice (some ⟨b, off, none⟩) 1 1) (hc : W.cell? ⟨b, off, none⟩ = some u) (hl : L.length ≤ 1000000000000) (hB : B ≤ W0.heap.size)
    (h : ∀ v' w', OwnIX w' B X v' (L ++ [xs]) → W.grownBy w' v.ownBlock → (∀ k, v.ownBlock = some k → B ≤ k) → wpList Tryz.prog ops Q rest (a.put o.dst v') w') : wpList Tryz.prog ops Q (o :: rest) a W :=
  wpList_plain hgd fun _ hK => app_rowX s x ho B v L u xs hs X hX hown hW hu b off hx hc hl hB fun v' w' h1 h2 h3 => hK _ _ (h v' w' h1 h2 h3)
/-- where the program stands: the map, its box, the list's box, and what they hold -/
structure QSt (w wr : World) (mb bM bO bt : Nat) (T : List Bool) (v : Value) (list : List P22) : Prop where
  map : MapP wr mb list
  bxM : Blk wr bM [.map (some mb)] 112
  bxO : Blk wr bO [v] 29
  tbl : Blk wr bt (bools T) 4
  own : OwnIX wr w.heap.size (fun k => k = mb ∨ k = bM ∨ k = bO ∨ k = bt) v (prows list)
  sub : Below w.heap.size w wr
  h1 : w.heap.size ≤ mb
  h2 : mb < bM
  h3 : bM < bO
  h4 : bO < bt
theorem MapP.lt {w : World} {b : Nat} {keys : List P22} (h : MapP w b keys) : b < w.heap.size := by
  obtain ⟨es, clock, hb, _⟩ := h
  exact (Array.getElem?_eq_some_iff.1 hb).1
theorem MapP.same {w w' : World} {b : Nat} {keys : List P22} (h : MapP w b keys) (hb : w'.heap[b]? = w.heap[b]?) : MapP w' b keys := by
  obtain ⟨es, clock, h1, h2⟩ := h
  exact ⟨es, clock, hb.trans h1, h2⟩
theorem QSt.below {w wr W : World} {mb bM bO bt : Nat} {T : List Bool} {v : Value} {list : List P22} (h : QSt w wr mb bM bO bt T v list) (hb : Below wr.heap.size wr W) : QSt w W mb bM bO bt T v list :=
  ⟨h.map.same (hb.block _ h.map.lt), (hb.block _ h.bxM.lt).trans h.bxM, (hb.block _ h.bxO.lt).trans h.bxO, (hb.block _ h.tbl.lt).trans h.tbl, h.own.below hb, h.sub.trans (hb.mono h.sub.size), h.h1, h.h2, h.h3, h.h4⟩
theorem QSt.lt {w wr : World} {mb bM bO bt : Nat} {T : List Bool} {v : Value} {list : List P22} (h : QSt w wr mb bM bO bt T v list) : ∀ k, (k = mb ∨ k = bM ∨ k = bO ∨ k = bt) → k < wr.heap.size := fun k hk => by
  rcases hk with rfl | rfl | rfl | rfl
  · exact h.map.lt
  · exact h.bxM.lt
  · exact h.bxO.lt
  · exact h.tbl.lt
set_option maxRecDepth 100000 in
set_option maxHeartbeats 1000000 in
theorem put_c (w : World) (mb bM bO bt : Nat) (T : List Bool) (v : Value) (list : List P22) (x : P22) (wr : World) (h : QSt w wr mb bM bO bt T v list) (hl : list.length ≤ 1000000) (p q : Int) (hp : p = (x.1 : Int)) (hq : q = (x.2 : Int)) :
    Calls Tryz.prog 99 #[.int .i64 p, .int .i64 q, .pointer (some ⟨bM, 0, none⟩), .pointer (some ⟨bO, 0, none⟩)] wr fun e w' => e = .returned (.tuple #[]) ∧ ∃ v', QSt w w' mb bM bO bt T v' (pput list x) := by
  subst hp hq
  have H := Lib.hid h
  have cM := h.bxM.cell 0 (by simp)
  have cO := h.bxO.cell 0 (by simp)
  have fO := h.bxO.frozen 0
  simp only [List.getElem_cons_zero] at cM cO
  have lM := h.bxM.lt
  have lO := h.bxO.lt
  have hsm := fun (o : Obj) => h.map.same (w' := wr.alloc o) ((below_al (o := o) (Below.refl wr.heap.size wr)).block _ h.map.lt)
  have hlk := fun (o : Obj) => (hsm o).lookup x
  unfold kval at hlk
  by_cases hx : x ∈ list
  · rw [decide_eq_true hx] at hlk
    have HP : Hid (pput list x = list) := by show pput list x = list; unfold pput; rw [if_pos hx]
    clear h hsm hx
    go_enter Tryz.func99, Tryz.ntmps99
    go_wp2_with fail
    go_end0
    exact ⟨rfl, v, by rw [HP.out]; exact H.out.below (below_al (Below.refl _ _))⟩
  · rw [decide_eq_false hx] at hlk
    have HP : Hid (pput list x = list ++ [x]) := by show pput list x = _; unfold pput; rw [if_neg hx]
    have HU := Lib.hid (fun (o : Obj) => (hsm o).update x hx)
    obtain ⟨o', hrun, hM⟩ := HU.out (.cells #[.int .i64 (x.1 : Nat), .int .i64 (x.2 : Nat)] 113)
    unfold kval at hrun
    have hbA := below_al (o := .cells #[.int .i64 (x.1 : Nat), .int .i64 (x.2 : Nat)] 113) (Below.refl wr.heap.size wr)
    have hoth : ∀ k, k ≠ mb → ({ (wr.alloc (.cells #[.int .i64 (x.1 : Nat), .int .i64 (x.2 : Nat)] 113)) with heap := (wr.alloc (.cells #[.int .i64 (x.1 : Nat), .int .i64 (x.2 : Nat)] 113)).heap.setIfInBounds mb o' } : World).heap[k]? = (wr.alloc (.cells #[.int .i64 (x.1 : Nat), .int .i64 (x.2 : Nat)] 113)).heap[k]? := fun k hk => by
      rw [Array.getElem?_setIfInBounds_ne (Ne.symm hk)]
    obtain ⟨wu, hwu⟩ : ∃ wu, wu = ({ (wr.alloc (.cells #[.int .i64 (x.1 : Nat), .int .i64 (x.2 : Nat)] 113)) with heap := (wr.alloc (.cells #[.int .i64 (x.1 : Nat), .int .i64 (x.2 : Nat)] 113)).heap.setIfInBounds mb o' } : World) := ⟨_, rfl⟩
    have hws : wu.heap.size = wr.heap.size + 1 := by rw [hwu]; simp
    rw [← hwu] at hrun hM hoth
    have huM : Hid (MapP wu mb (list ++ [x])) := hM
    have HbU : Hid (Below w.heap.size w wu) := by
      have hA := below_al (o := .cells #[.int .i64 (x.1 : Nat), .int .i64 (x.2 : Nat)] 113) h.sub
      exact ⟨by rw [hwu]; exact hA.os, by rw [hwu]; exact hA.tape, by rw [hwu]; exact hA.output, by rw [hws]; have := h.sub.size; omega, fun k hk => (hoth k (by have := h.h1; omega)).trans (hA.block k hk)⟩
    have hlow : ∀ k, k < wr.heap.size → k ≠ mb → wu.heap[k]? = wr.heap[k]? := fun k hk hne => (hoth k hne).trans (hbA.block k hk)
    have huBM : Blk wu bM [.map (some mb)] 112 := (hlow bM lM (by have := h.h2; omega)).trans h.bxM
    have huBO : Blk wu bO [v] 29 := (hlow bO lO (by have := h.h2; have := h.h3; omega)).trans h.bxO
    have huT : Hid (Blk wu bt (bools T) 4) := (hlow bt h.tbl.lt (by have := h.h2; have := h.h3; have := h.h4; omega)).trans h.tbl
    have huOw : Hid (OwnIX wu w.heap.size (fun k => k = mb ∨ k = bM ∨ k = bO ∨ k = bt) v (prows list)) := h.own.same fun k _ hk hX => hlow k hk (fun e => hX (.inl e))
    have dO := huBO.cell 0 (by simp)
    have gO := huBO.frozen 0
    simp only [List.getElem_cons_zero] at dO
    have HuBM := Lib.hid huBM
    have HuBO := Lib.hid huBO
    have Hlow := Lib.hid hlow
    have Hws := Lib.hid hws
    have lO' : bO < wu.heap.size := huBO.lt
    clear h hsm hx hM hoth hwu hbA hlow huBM huBO hws
    go_enter Tryz.func99, Tryz.ntmps99
    go_wp2_with (at_builtin; refine Hold.of ?_)
    refine Hold.to ?_
    have hX : ∀ k, (k = mb ∨ k = bM ∨ k = bO ∨ k = bt) → k < wu.heap.size := fun k hk => by
      rcases hk with rfl | rfl | rfl | rfl
      · exact huM.out.lt
      · exact HuBM.out.lt
      · exact HuBO.out.lt
      · exact huT.out.lt
    refine wpl_app_rowX (W0 := wu) rfl (.tmp 16) (.tmp 20) rfl w.heap.size v (prows list) (.slice (some ⟨wu.heap.size, 0, none⟩) 2 2) (prow x) rfl _ hX huOw.out (below_al (below_al (Below.refl _ _))) ((OwnI.made wu _ #[.int .i64 (x.1 : Nat), .int .i64 (x.2 : Nat)] (prow x) rfl (Nat.le_refl _) (by simp [prow])).alloc _) (wu.heap.size + 1) 0 rfl (cell_al _ _ _ _ _ _ (by simp) rfl) (by rw [prows_length]; omega) (by have := H.out.sub.size; have := Hws.out; omega) (fun v' w' h1 h2 h3 => ?_)
    rw [← prows_app, ← HP.out] at h1
    have hsame : ∀ k, (k = mb ∨ k = bM ∨ k = bO ∨ k = bt) → w'.heap[k]? = wu.heap[k]? := fun k hk => by
      obtain ⟨_, _, _, _, g5⟩ := h2
      have hk' := hX k hk
      refine (g5 k (by simp; omega) (huOw.out.off hk)).trans ?_
      exact (below_al (below_al (Below.refl wu.heap.size wu))).block k hk'
    have HM' : Hid (MapP w' mb (pput list x)) := by rw [Hid, HP.out]; exact huM.out.same (hsame mb (.inl rfl))
    have hBM' : Blk w' bM [.map (some mb)] 112 := (hsame bM (.inr (.inl rfl))).trans HuBM.out
    have HT' : Hid (Blk w' bt (bools T) 4) := (hsame bt (.inr (.inr (.inr rfl)))).trans huT.out
    have hBO' : Blk w' bO [v] 29 := (hsame bO (.inr (.inr (.inl rfl)))).trans HuBO.out
    have HB' := Lib.hid (Below.grown (below_al (below_al HbU.out)) h2 (by have := HbU.out.size; simp; omega) h3)
    have HO' := Lib.hid h1
    have qO := hBO'.frozen 0
    have qo := hBO'.cell 0 (by simp)
    have lO2 := hBO'.lt
    have HBM' := Lib.hid hBM'
    have HBO' := Lib.hid hBO'
    have H1 := Lib.hid (And.intro H.out.h1 (And.intro H.out.h2 (And.intro H.out.h3 H.out.h4)))
    clear h1 h2 h3 hsame hBM' hBO' hX hlk hrun cM cO fO dO gO
    obtain ⟨A', c', rfl, -⟩ := HO'.out.shape
    go_wp2
    go_end0
    exact ⟨rfl, _, HM'.out.same (Below.heap_setCell _ _ _ _ (by have := H1.out; show mb ≠ bO; omega)), HBM'.out.other (a := ⟨bO, 0, none⟩) (by have := H1.out; show bM ≠ bO; omega) _, HBO'.out.set 0 _, HT'.out.other (a := ⟨bO, 0, none⟩) (by have := H1.out; show bt ≠ bO; omega) _, HO'.out.store ⟨bO, 0, none⟩ (.inr (.inr (.inl rfl))) _, HB'.out.setCell (by have := H1.out; show w.heap.size ≤ bO; omega) _, H1.out.1, H1.out.2.1, H1.out.2.2.1, H1.out.2.2.2⟩

end Go.Proofs.YtkgnejhflnekaaaGreat
