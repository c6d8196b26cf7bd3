/- Contracts and lemmas for the statements of this seat, written for this claim; each theorem states its own conditions. -/
import Derived.Test.YtfkmophmiiehlaaKoJ4
import Derived.Test.YtfkmophmiiehlaaKoLw
import Derived.Test.YtfkmophmiiehlaaKoLi
import Derived.Test.YtfkmophmiiehlaaKoMk
set_option linter.unusedVariables false
set_option linter.unusedSimpArgs false
namespace Go.Proofs.Ytfkmophmiiehlaa
open Go.RowKit
/-- an owned slice of tiles, by its cells -/
def OwnTc (w : World) (B : Nat) (v : Value) (n : Nat) (cs : List Value) : Prop := w.ownsRow B 57 4 v n cs
theorem OwnT.toC {w : World} {B : Nat} {v : Value} {ts : List T4} (h : OwnT w B v ts) : OwnTc w B v ts.length (tcells ts) := h
theorem OwnTc.shape {w : World} {B : Nat} {v : Value} {n : Nat} {cs : List Value} (h : OwnTc w B v n cs) : ∃ A cx, v = .slice A n cx ∧ (0 < n → ∃ g, A = some ⟨g, 0, none⟩ ∧ B ≤ g ∧ g < w.heap.size) := by
  obtain ⟨h1, ⟨h3, h2⟩ | ⟨g, cap, cur, rfl, hB, hb, h3, h4, h5, h6⟩⟩ := h
  · exact ⟨none, 0, by rw [h3, h2], fun k => by omega⟩
  · exact ⟨some ⟨g, 0, none⟩, cap, rfl, fun _ => ⟨g, rfl, hB, (Array.getElem?_eq_some_iff.1 hb).1⟩⟩
theorem OwnTc.len {w : World} {B : Nat} {v : Value} {n : Nat} {cs : List Value} (h : OwnTc w B v n cs) : cs.length = n * 4 := h.1
theorem OwnTc.below {w w1 : World} {B : Nat} {v : Value} {n : Nat} {cs : List Value} (h : OwnTc w B v n cs) (hb : Below w.heap.size w w1) : OwnTc w1 B v n cs :=
  World.ownsRow.kept (row := none) h ⟨hb.os, hb.tape, hb.output, hb.size, fun k hk _ => hb.block k hk⟩ (by cases h : v.ownBlock with | none => exact .inl rfl | some k => exact .inr (by simp))
theorem OwnTc.grown {w w1 : World} {B : Nat} {v : Value} {n : Nat} {cs : List Value} {row : Option Nat} (h : OwnTc w B v n cs) (hg : w.grownBy w1 row) (hne : v.ownBlock = none ∨ v.ownBlock ≠ row) : OwnTc w1 B v n cs := World.ownsRow.kept h hg hne
theorem marks_step4 (k j : Nat) (cs : List Value) (hj : j < cs.length) : (ints (marks k j) ++ cs.drop j).set j (.int .i64 ((k + j : Nat) : Int)) = ints (marks k (j + 1)) ++ cs.drop (j + 1) := by
  rw [List.set_append_right _ _ (by rw [ints_length, marks_len]; exact Nat.le_refl _), ints_length, marks_len, Nat.sub_self, List.drop_eq_getElem_cons hj, List.set_cons_zero]
  simp [ints, marks, List.range_succ]
set_option maxRecDepth 100000 in
set_option maxHeartbeats 1000000 in
theorem markT_c (n : Nat) (cs : List Value) (v : Value) (k B : Nat) (w : World) (hO : OwnTc w B v n cs) (hn : n ≤ 1000000000) (hk : k ≤ 1000000000000) :
    Calls Try.prog 27 #[v, .int .i64 k] w fun e w' => e = .returned (.int .i64 ((k + n * 4 : Nat) : Int)) ∧ OwnTc w' B v n (ints (marks k (n * 4))) ∧ w.grownBy w' v.ownBlock := by
  obtain ⟨A, cx, rfl, hA⟩ := hO.shape
  have hcl := hO.len
  have HA := Lib.hid hA
  have HCL := Lib.hid hcl
  clear hA hcl
  go_enter Try.func27, Try.ntmps27
  go_wp2
  go_loopw [1, 5] (fun m i wr => ∃ j : Nat, j ≤ n ∧ m = .int .i64 ((k + j * 4 : Nat) : Int) ∧ i = .int .i64 j ∧ Hid (OwnTc wr B (.slice A n cx) n (ints (marks k (j * 4)) ++ cs.drop (j * 4))) ∧ Hid (w.grownBy wr (Value.ownBlock (.slice A n cx)))) (fun _ i _ => n - (intOf i).toNat)
  case atStart => exact ⟨0, by omega, by simp, rfl, by simpa [marks, ints] using Lib.hid hO, World.grownBy.refl _ _⟩
  case round =>
    obtain ⟨j, hj, rfl, rfl, HC, HG⟩ := hrel
    clear hO
    by_cases hjn : j < n
    · obtain ⟨g, rfl, hBg, hgw⟩ := HA.out (by omega)
      clear hBg hgw
      go_wp2_with fail
      go_loopw [1, 6] (fun m i wr => ∃ q : Nat, q ≤ 4 ∧ m = .int .i64 ((k + j * 4 + q : Nat) : Int) ∧ i = .int .i64 q ∧ Hid (OwnTc wr B (.slice (some ⟨g, 0, none⟩) n cx) n (ints (marks k (j * 4 + q)) ++ cs.drop (j * 4 + q))) ∧ Hid (w.grownBy wr (Value.ownBlock (.slice (some ⟨g, 0, none⟩) n cx)))) (fun _ i _ => 4 - (intOf i).toNat)
      case atStart => exact ⟨0, by omega, by simp, rfl, HC.out, HG.out⟩
      case round =>
        obtain ⟨q, hq, rfl, rfl, HC2, HG2⟩ := hrel
        by_cases hq4 : q < 4
        · have hlt : j * 4 + q < cs.length := by have := HCL.out; omega
          have HS := Lib.hid (marks_step4 k (j * 4 + q) cs hlt)
          have hl2 : j * 4 + q < (ints (marks k (j * 4 + q)) ++ cs.drop (j * 4 + q)).length := by rw [List.length_append, ints_length, marks_len, List.length_drop]; omega
          have r0 := World.ownsRow.cellAt HC2.out (j * 4 + q) (by omega)
          rw [List.getElem?_eq_getElem hl2] at r0
          have z0 := World.ownsRow.frozenAt HC2.out (j * 4 + q)
          generalize (ints (marks k (j * 4 + q)) ++ cs.drop (j * 4 + q))[j * 4 + q] = u at *
          have hlt0 : g < wr.heap.size := (World.ownsRow.lt HC2.out g rfl).2
          clear hl2
          go_wp2_with fail
          go_roundw
          case rel => exact ⟨q + 1, by omega, by go_num, by go_num, by show OwnTc _ _ _ _ _; have := (World.ownsRow.stored HC2.out (j * 4 + q) (.int .i64 ((k + (j * 4 + q) : Nat) : Int))).1; rw [HS.out] at this; rw [show j * 4 + (q + 1) = j * 4 + q + 1 by omega, show (k : Int) + j * 4 + q = ((k + (j * 4 + q) : Nat) : Int) by omega]; exact this, HG2.out.trans (World.ownsRow.stored HC2.out (j * 4 + q) _).2⟩
          case measure => simp [intOf]; omega
        · obtain rfl : q = 4 := by omega
          go_wp2_with fail
          go_roundw
          case rel => exact ⟨j + 1, by omega, by go_num, by go_num, by show OwnTc _ _ _ _ _; rw [show (j + 1) * 4 = j * 4 + 4 by omega]; exact HC2.out, HG2.out⟩
          case measure => simp [intOf]; omega
    · obtain rfl : j = n := by omega
      go_wp2
      go_ret
      refine ⟨rfl, ?_, HG.out⟩
      have := HC.out
      rw [List.drop_eq_nil_of_le (by have := HCL.out; omega), List.append_nil] at this
      exact this
set_option maxRecDepth 100000 in
set_option maxHeartbeats 1000000 in
theorem heldT_c (n : Nat) (v : Value) (k B : Nat) (w : World) (hO : OwnTc w B v n (ints (marks k (n * 4)))) (hn : n ≤ 1000000000) (hk : k ≤ 1000000000000) :
    Calls Try.prog 71 #[v, .int .i64 k] w fun e w' => e = .returned (.int .i64 ((k + n * 4 : Nat) : Int)) ∧ w = w' := by
  obtain ⟨A, cx, rfl, hA⟩ := hO.shape
  have HA := Lib.hid hA
  have HO := Lib.hid hO
  clear hA hO
  go_enter Try.func71, Try.ntmps71
  go_wp2
  go_loop [1, 5] (fun m i => ∃ j : Nat, j ≤ n ∧ m = .int .i64 ((k + j * 4 : Nat) : Int) ∧ i = .int .i64 j) (fun _ i => n - (intOf i).toNat)
  case atStart => exact ⟨0, by omega, by simp, rfl⟩
  case round =>
    obtain ⟨j, hj, rfl, rfl⟩ := hrel
    by_cases hjn : j < n
    · obtain ⟨g, rfl, hBg, hgw⟩ := HA.out (by omega)
      clear hBg hgw
      go_wp2_with fail
      go_loop [1, 6] (fun m i => ∃ q : Nat, q ≤ 4 ∧ m = .int .i64 ((k + j * 4 + q : Nat) : Int) ∧ i = .int .i64 q) (fun _ i => 4 - (intOf i).toNat)
      case atStart => exact ⟨0, by omega, by simp, rfl⟩
      case round =>
        obtain ⟨q, hq, rfl, rfl⟩ := hrel
        by_cases hq4 : q < 4
        · have hl2 : j * 4 + q < (marks k (n * 4)).length := by rw [marks_len]; omega
          have r0 := World.ownsRow.cellAt HO.out (j * 4 + q) (by omega)
          have e0 : (ints (marks k (n * 4)))[j * 4 + q]? = some (.int .i64 ((k + (j * 4 + q) : Nat) : Int)) := by rw [List.getElem?_eq_getElem (by rw [ints_length]; exact hl2)]; simp [ints, marks_get]
          rw [e0, show ((k + (j * 4 + q) : Nat) : Int) = (k : Int) + j * 4 + q by omega] at r0
          clear e0 hl2
          go_wp2_with fail
          go_round
          case rel => exact ⟨q + 1, by omega, by go_num, by go_num⟩
          case measure => simp [intOf]; omega
        · obtain rfl : q = 4 := by omega
          go_wp2_with fail
          go_round
          case rel => exact ⟨j + 1, by omega, by go_num, by go_num⟩
          case measure => simp [intOf]; omega
    · obtain rfl : j = n := by omega
      go_wp2
      go_ret
      exact ⟨rfl, rfl⟩
set_option maxRecDepth 100000 in
set_option maxHeartbeats 1000000 in
theorem markS_c (c : Int) (n : Nat) (cs : List Value) (v : Value) (k B : Nat) (w : World) (hO : OwnTc w B v n cs) (hn : n ≤ 1000000000) (hk : k ≤ 1000000000000) :
    Calls Try.prog 15 #[.agg #[.int .i64 c, v], .int .i64 k] w fun e w' => e = .returned (.int .i64 ((k + n * 4 : Nat) : Int)) ∧ OwnTc w' B v n (ints (marks k (n * 4))) ∧ w.grownBy w' v.ownBlock := by
  have HM := Lib.hid (fun (wq : World) (h : OwnTc wq B v n cs) => markT_c n cs v k B wq h hn hk)
  have HO := Lib.hid hO
  obtain ⟨A, cx, rfl, _⟩ := hO.shape
  clear hO
  go_enter Try.func15, Try.ntmps15
  go_wp2_with fail
  refine (HM.out _ (HO.out.below ((Below.refl _ _).alloc (Nat.le_refl _) _))).mono ?_
  rintro e w1 ⟨rfl, h1, hg⟩
  have HG := Lib.hid hg
  have H1 := Lib.hid h1
  clear hg h1
  go_wp2
  go_ret
  exact ⟨rfl, H1.out, (grow_alloc (World.grownBy.refl _ _) _).trans HG.out⟩
set_option maxRecDepth 100000 in
set_option maxHeartbeats 1000000 in
theorem heldS_c (c : Int) (n : Nat) (v : Value) (k B : Nat) (w : World) (hO : OwnTc w B v n (ints (marks k (n * 4)))) (hn : n ≤ 1000000000) (hk : k ≤ 1000000000000) :
    Calls Try.prog 36 #[.agg #[.int .i64 c, v], .int .i64 k] w fun e w' => e = .returned (.int .i64 ((k + n * 4 : Nat) : Int)) ∧ Below w.heap.size w w' := by
  have HM := Lib.hid (fun (wq : World) (h : OwnTc wq B v n (ints (marks k (n * 4)))) => heldT_c n v k B wq h hn hk)
  have HO := Lib.hid hO
  obtain ⟨A, cx, rfl, _⟩ := hO.shape
  clear hO
  go_enter Try.func36, Try.ntmps36
  go_wp2_with fail
  refine (HM.out _ (HO.out.below ((Below.refl _ _).alloc (Nat.le_refl _) _))).mono ?_
  rintro e w1 ⟨rfl, rfl⟩
  go_wp2
  go_ret
  exact ⟨rfl, by (repeat (first | (with_reducible exact Below.refl _ _) | (with_reducible assumption) | (with_reducible refine below_al ?_) | (with_reducible refine below_dr ?_) | (with_reducible refine below_drN ?_) | (with_reducible refine below_set ?_ (by first | exact Nat.le_refl _ | (dsimp only; omega) | omega)) | (with_reducible refine below_tr (by with_reducible assumption) ?_)))⟩

end Go.Proofs.Ytfkmophmiiehlaa
namespace Go.Proofs.Ytfkmophmiiehlaa
open Go.RowKit
theorem Blk.grownB {w w' : World} {b : Nat} {cs : List Value} {T : TypeId} {row : Option Nat} (h : Blk w b cs T) (hg : w.grownBy w' row) (hne : row ≠ some b) : Blk w' b cs T := (hg.block b h.lt (fun e => hne e.symm)).trans h
theorem OwnT.grown {w w1 : World} {B : Nat} {v : Value} {ts : List T4} {row : Option Nat} (h : OwnT w B v ts) (hg : w.grownBy w1 row) (hne : v.ownBlock = none ∨ v.ownBlock ≠ row) : OwnT w1 B v ts := World.ownsRow.kept h hg hne
theorem OwnT.blt {w : World} {B : Nat} {v : Value} {ts : List T4} (h : OwnT w B v ts) : ∀ k, v.ownBlock = some k → B ≤ k ∧ k < w.heap.size := fun k hk => World.ownsRow.lt h k hk
theorem OwnT.tilesAt {w : World} {B n cx : Nat} {A : Option Addr} {ts : List T4} (h : OwnT w B (.slice A n cx) ts) : TileCells w A ts := by
  obtain ⟨A', cx', e, hT⟩ := h.tiles
  injection e with a1 a2 a3
  subst a1
  exact hT
end Go.Proofs.Ytfkmophmiiehlaa
