/- Contracts and lemmas for the statements of this seat, written for this claim; each theorem states its own conditions. -/
import Derived.Test.YtfkmophmiiehlaaVpQ2
import Derived.Test.YtfkmophmiiehlaaVpI2
set_option linter.unusedVariables false
set_option linter.unusedSimpArgs false
namespace Go.Proofs.Ytfkmophmiiehlaa
open Go.RowKit
def kval (x : P22) : Value := .agg #[.int .i64 (x.1 : Int), .int .i64 (x.2 : Int)]
theorem run_equalIn_pair (a b c d : Int) (w : World) : (Op.equalIn 10000 118 (.agg #[.int .i64 a, .int .i64 b]) (.agg #[.int .i64 c, .int .i64 d])).run Try.prog w = .ok (decide (a = c ∧ b = d)) w := by
  rw [show (10000 : Nat) = 9998 + 1 + 1 from rfl, Op.equalIn]
  simp only [Sem.run_bind, run_underlying Try.underlying118, Result.andThen_ok]
  have z := fun w => Try.sizeOf2 w
  simp only [Sem.run_bind, z, Result.andThen_ok]
  have hi := fun (x y : Int) (w : World) => run_equalIn_int (P := Try.prog) w 9998 2 .i64 .i64 x y Try.underlying2
  have ha := fun w => Try.isAgg2 w
  rw [show (forIn [:2] : (Option Bool × Unit) → (Nat → (Option Bool × Unit) → Sem (ForInStep (Option Bool × Unit))) → Sem (Option Bool × Unit)) = forIn [0, 1] from by funext a f; simp [Std.Legacy.Range.forIn_eq_forIn_range', List.range']]
  simp only [List.forIn_cons, List.forIn_nil, Sem.run_bind]
  go_simp
  by_cases h0 : a = c <;> by_cases h1 : b = d <;> simp [h0, h1]
/-- block b is a map whose keys are these pairs, each with the value true -/
def MapP (w : World) (b : Nat) (keys : List P22) : Prop :=
  ∃ es clock, w.heap[b]? = some (.map es clock) ∧ es.toList.map (·.key) = keys.map kval ∧ ∀ e ∈ es.toList, e.val = .bool true
theorem find_run (x : P22) : ∀ (es : List MapEntry) (keys : List P22) (i : Nat) (w : World), es.map (·.key) = keys.map kval → (∀ e ∈ es, e.val = .bool true) →
    ∃ r, (Instr.findAsking 118 (kval x) es i).run Try.prog w = .ok r w ∧ ((x ∉ keys ∧ r = none) ∨ (x ∈ keys ∧ ∃ j, r = some (j, .bool true)))
  | [], keys, i, w, hk, _ => by
    have : keys = [] := by cases keys with | nil => rfl | cons _ _ => simp at hk
    subst this
    exact ⟨none, by unfold Instr.findAsking; rfl, .inl ⟨by simp, rfl⟩⟩
  | e :: es, keys, i, w, hk, hv => by
    cases keys with
    | nil => simp at hk
    | cons y keys =>
      simp only [List.map_cons, List.cons.injEq] at hk
      obtain ⟨h1, h2⟩ := hk
      unfold Instr.findAsking
      have he : (Op.equal 118 (kval x) e.key).run Try.prog w = .ok (decide (x = y)) w := by
        rw [h1]
        show (Op.equalIn 10000 118 (kval x) (kval y)).run Try.prog w = _
        unfold kval
        rw [run_equalIn_pair]
        obtain ⟨x1, x2⟩ := x
        obtain ⟨y1, y2⟩ := y
        rw [show decide (((x1 : Nat) : Int) = (y1 : Nat) ∧ ((x2 : Nat) : Int) = (y2 : Nat)) = decide ((x1, x2) = (y1, y2)) from decide_eq_decide.2 (by rw [Prod.mk.injEq]; omega)]
      rw [Sem.run_bind, he, Result.andThen_ok]
      by_cases hxy : x = y
      · refine ⟨some (i, .bool true), ?_, .inr ⟨by simp [hxy], i, rfl⟩⟩
        rw [decide_eq_true hxy, hv e (by simp)]
        rfl
      · obtain ⟨r, hr, hor⟩ := find_run x es keys (i + 1) w h2 (fun e he => hv e (by simp [he]))
        refine ⟨r, ?_, ?_⟩
        · rw [decide_eq_false hxy]; exact hr
        · rcases hor with ⟨a, b⟩ | ⟨a, b⟩
          · exact .inl ⟨by simp [hxy, a], b⟩
          · exact .inr ⟨by simp [a], b⟩
theorem check_pair (e : Bool) (x : P22) (w : World) : (Instr.checkKey e 10000 118 (kval x)).run Try.prog w = .ok () w := by
  rw [show (10000 : Nat) = 9998 + 1 + 1 from rfl, Instr.checkKey]
  unfold kval
  have hz := fun w => Try.sizeOf2 w
  have ha := fun w => Try.isAgg2 w
  have hi : ∀ (x : Int) (w : World), (Instr.checkKey e (9998 + 1) 2 (.int .i64 x)).run Try.prog w = .ok () w := fun x w => by
    rw [Instr.checkKey]
    simp only [Sem.run_bind, run_underlying Try.underlying2, Result.andThen_ok]
    rfl
  simp only [Sem.run_bind, run_underlying Try.underlying118, Result.andThen_ok]
  rw [show (forIn [:2] : Unit → (Nat → Unit → Sem (ForInStep Unit)) → Sem Unit) = forIn [0, 1] from by funext a f; simp [Std.Legacy.Range.forIn_eq_forIn_range', List.range']]
  simp only [List.forIn_cons, List.forIn_nil, Sem.run_bind]
  go_simp
theorem key_run (x : P22) (es : List MapEntry) (keys : List P22) (w : World) (hk : es.map (·.key) = keys.map kval) (hv : ∀ e ∈ es, e.val = .bool true) :
    ∃ r, (Instr.findKey 118 (kval x) es).run Try.prog w = .ok r w ∧ ((x ∉ keys ∧ r = none) ∨ (x ∈ keys ∧ ∃ j, r = some (j, .bool true))) := by
  unfold Instr.findKey
  simp only [Sem.run_bind, run_underlying Try.underlying118, Result.andThen_ok]
  cases es with
  | nil =>
    have : keys = [] := by cases keys with | nil => rfl | cons _ _ => simp at hk
    subst this
    exact ⟨none, rfl, .inl ⟨by simp, rfl⟩⟩
  | cons e es => exact find_run x (e :: es) keys 0 w hk hv
theorem MapP.lookup {w : World} {b : Nat} {keys : List P22} (h : MapP w b keys) (x : P22) : (Instr.lookup 117 (.map (some b)) (kval x) false).run Try.prog w = .ok (.bool (decide (x ∈ keys))) w := by
  obtain ⟨es, clock, hb, hk, hv⟩ := h
  obtain ⟨r, hr, hor⟩ := key_run x es.toList keys w hk hv
  unfold Instr.lookup
  simp only [Sem.run_bind, run_underlying Try.underlying117, Result.andThen_ok]
  have hg : (getObj b).run Try.prog w = .ok (.map es clock) w := by simp [getObj, Sem.run, hb]
  simp only [Sem.run_bind, hg, Result.andThen_ok, Sem.run_pure]
  rw [check_pair]
  simp only [Result.andThen_ok]
  rw [hr]
  simp only [Result.andThen_ok]
  rcases hor with ⟨hx, rfl⟩ | ⟨hx, j, rfl⟩
  · rw [decide_eq_false hx]
    have hz := Try.zeroValue4
    simp [hz, Sem.run_bind, Sem.run_pure]
  · rw [decide_eq_true hx]
    simp [Sem.run_pure]
theorem MapP.update {w : World} {b : Nat} {keys : List P22} (h : MapP w b keys) (x : P22) (hx : x ∉ keys) : ∃ o, (Instr.mapUpdate 117 (.map (some b)) (kval x) (.bool true)).run Try.prog w = .ok () { w with heap := w.heap.setIfInBounds b o } ∧ MapP { w with heap := w.heap.setIfInBounds b o } b (keys ++ [x]) := by
  obtain ⟨es, clock, hb, hk, hv⟩ := h
  obtain ⟨r, hr, hor⟩ := key_run x es.toList keys w hk hv
  rcases hor with ⟨_, rfl⟩ | ⟨hx', _⟩
  · refine ⟨.map (es.push { key := kval x, val := .bool true, born := clock }) (clock + 1), ?_, es.push { key := kval x, val := .bool true, born := clock }, clock + 1, ?_, ?_, ?_⟩
    · unfold Instr.mapUpdate
      simp only [Sem.run_bind, run_underlying Try.underlying117, Result.andThen_ok]
      have hg : (getObj b).run Try.prog w = .ok (.map es clock) w := by simp [getObj, Sem.run, hb]
      simp only [Sem.run_bind, hg, Result.andThen_ok, Sem.run_pure]
      rw [check_pair]
      simp only [Result.andThen_ok]
      rw [hr]
      simp only [Result.andThen_ok]
      simp [setObj, Sem.run, hb]
    · have := (Array.getElem?_eq_some_iff.1 hb).1
      simp [this]
    · simp [hk]
    · intro e he
      simp only [Array.toList_push, List.mem_append, List.mem_singleton] at he
      rcases he with he | rfl
      · exact hv e he
      · rfl
  · exact absurd hx' hx

end Go.Proofs.Ytfkmophmiiehlaa
