/- Contracts and lemmas for the statements of this seat, written for this claim; each theorem states its own conditions. -/
import Derived.ProofKit
import Derived.OpenShut
import Derived.ShutString
import Derived.ChangeOld
import Derived.Below
import Derived.SizedLaws
import Derived.Deep.Slices
import Derived.Deep.Fields
import Derived.ChangeSame
import Derived.Lib.SmallJoins
import Derived.Laws.IdiomArrays
import Derived.Carry
import Derived.Test.YtnoehaphbpkpjaaGreatFoSe
import Derived.Test.YtnoehaphbpkpjaaGreatFoBk
import Derived.Test.YtnoehaphbpkpjaaGreatFoAdd
set_option linter.unusedVariables false
set_option linter.unusedSimpArgs false
namespace Go.Proofs.YtnoehaphbpkpjaaGreat
open Go.RowKit
set_option maxRecDepth 100000 in
set_option maxHeartbeats 1000000 in
theorem always_c (w : World) : Calls Tryz.prog 76 #[] w fun e w' => e = .returned (.bool true) ∧ Below w.heap.size w w' := by
  go_enter Tryz.func76, Tryz.ntmps76
  go_wp2
  go_ret
  exact ⟨rfl, by (repeat (first | (with_reducible exact Below.refl _ _) | (with_reducible assumption) | (with_reducible refine below_al ?_) | (with_reducible refine below_dr ?_) | (with_reducible refine below_drN ?_) | (with_reducible refine below_set ?_ (by first | exact Nat.le_refl _ | (dsimp only; omega) | omega)) | (with_reducible refine below_tr (by with_reducible assumption) ?_)))⟩
end Go.Proofs.YtnoehaphbpkpjaaGreat
namespace Go.Proofs.YtnoehaphbpkpjaaGreat
open Go.RowKit
attribute [local go_sem] addUpon_value addUpon_skip addUpon_enter
set_option maxRecDepth 100000 in
set_option maxHeartbeats 1000000 in
theorem slicesEqual_c (xs ys : List Int) (A B : Option Addr) (cx cy : Nat) (w : World) (hx : Cells w A (ints xs)) (hy : Cells w B (ints ys)) (lx : xs.length ≤ 1000000000) (ly : ys.length ≤ 1000000000) :
    Calls Tryz.prog 69 #[.slice A xs.length cx, .slice B ys.length cy] w fun e w' => e = .returned (.bool (eqI xs ys)) ∧ Below w.heap.size w w' := by
  by_cases hl : xs.length = ys.length
  · have HL := Lib.hid hl
    have hl' : ((xs.length : Int) != (ys.length : Int)) = false := by simp; omega
    have hl2 : ys.length ≤ xs.length := by omega
    have hl3 : xs.length ≤ ys.length := by omega
    clear hl
    go_enter Tryz.func69, Tryz.ntmps69
    go_wp2
    go_loopw [13] (fun i wr => ∃ k : Nat, k ≤ xs.length ∧ i = .int .i64 k ∧ Hid (∀ j (h1 : j < xs.length) (h2 : j < ys.length), j < k → xs[j] = ys[j]) ∧ Below w.heap.size w wr) (fun i _ => xs.length - (intOf i).toNat)
    case atStart => exact ⟨0, by omega, rfl, fun j _ _ h => by omega, Below.refl _ _⟩
    case round =>
      obtain ⟨k, hk, rfl, Hn, hb⟩ := hrel
      have Hb := Lib.hid hb
      by_cases h1 : k < xs.length
      · have h2 : k < ys.length := by omega
        obtain ⟨b, off, rfl, hlt, c0⟩ := (hx.below hb).int k h1
        obtain ⟨b', off', rfl, hlt', d0⟩ := (hy.below hb).int k h2
        have e0 := keepC c0
        have f0 := keepC d0
        clear c0 d0 hx hy hb
        by_cases hE : xs[k] = ys[k]
        · have hE' : (xs[k] != ys[k]) = false := by simpa using hE
          have HE : Hid (∀ j (h1 : j < xs.length) (h2 : j < ys.length), j < k + 1 → xs[j] = ys[j]) := fun j h1 h2 hj => by
            by_cases e : j = k
            · subst e; exact hE
            · exact Hn.out j h1 h2 (by omega)
          clear hE
          generalize xs[k] = s at *
          generalize ys[k] = t at *
          go_wp2_with fail
          refine wp_region_add (fun w' => Below (wr).heap.size (wr) w') (by kernel_rfl) (by kernel_rfl) ((Below.refl _ _).drew) ?_
          repeat (first
            | (refine add_skip rfl (fun K' hK' => ?_); go_simp; refine hK' _ ?_; clear hK' K')
            | (refine add_do (v := ?_) rfl (fun w1 hb => ?_) (fun K' hK' => ?_); rotate_left
               · go_simp
                 first
                 | (with_reducible exact rfl)
                 | (with_reducible exact ⟨rfl, hb⟩)
                 | exact rfl
                 | exact ⟨rfl, hb⟩
               go_simp; refine hK' _ ?_; clear hK' K'))
          refine add_nil ?_
          intro wa hba
          go_wp2
          go_roundw
          case rel => exact ⟨k + 1, by omega, by go_num, HE, by have h3 := Hb.out; (repeat (first | (with_reducible exact Below.refl _ _) | (with_reducible assumption) | (with_reducible refine below_al ?_) | (with_reducible refine below_dr ?_) | (with_reducible refine below_drN ?_) | (with_reducible refine below_set ?_ (by first | exact Nat.le_refl _ | (dsimp only; omega) | omega)) | (with_reducible refine below_tr (by with_reducible assumption) ?_)))⟩
          case measure => simp [intOf]; omega
        · have hE' : (xs[k] != ys[k]) = true := by simpa using hE
          have HE : Hid (eqI xs ys = false) := by unfold Hid eqI; simp only [decide_eq_false_iff_not]; intro e; apply hE; simp only [e]
          clear hE
          generalize xs[k] = s at *
          generalize ys[k] = t at *
          go_wp2_with fail
          refine wp_region_add (fun w' => Below (wr).heap.size (wr) w') (by kernel_rfl) (by kernel_rfl) ((Below.refl _ _).drew) ?_
          repeat (first
            | (refine add_skip rfl (fun K' hK' => ?_); go_simp; refine hK' _ ?_; clear hK' K')
            | (refine add_do (v := ?_) rfl (fun w1 hb => ?_) (fun K' hK' => ?_); rotate_left
               · go_simp
                 first
                 | (with_reducible exact rfl)
                 | (with_reducible exact ⟨rfl, hb⟩)
                 | exact rfl
                 | exact ⟨rfl, hb⟩
               go_simp; refine hK' _ ?_; clear hK' K'))
          refine add_nil ?_
          intro wa hba
          go_wp2
          go_ret
          exact ⟨ret_bool HE.out.symm, by have h3 := Hb.out; (repeat (first | (with_reducible exact Below.refl _ _) | (with_reducible assumption) | (with_reducible refine below_al ?_) | (with_reducible refine below_dr ?_) | (with_reducible refine below_drN ?_) | (with_reducible refine below_set ?_ (by first | exact Nat.le_refl _ | (dsimp only; omega) | omega)) | (with_reducible refine below_tr (by with_reducible assumption) ?_)))⟩
      · have HE : Hid (eqI xs ys = true) := by
          unfold Hid eqI; rw [decide_eq_true_eq]
          exact List.ext_getElem HL.out fun j h1 h2 => Hn.out j h1 h2 (by omega)
        clear hx hy
        go_wp2
        go_ret
        exact ⟨ret_bool HE.out.symm, hb⟩
  · have hR : Hid (eqI xs ys = false) := by unfold Hid eqI; simp only [decide_eq_false_iff_not]; intro e; exact hl (by rw [e])
    have hl' : ((xs.length : Int) != (ys.length : Int)) = true := by simp; omega
    clear hl
    go_enter Tryz.func69, Tryz.ntmps69
    go_wp2
    go_ret
    exact ⟨ret_bool hR.out.symm, Below.refl _ _⟩
/-- what a function value does as a predicate over lists of numbers, in every world that grows out of w -/
def PredR (w : World) (k : FuncId) (caps : Array Value) (p : List Int → Bool) (L : List (List Int)) : Prop :=
  ∀ j (h : j < L.length) (A : Option Addr) (cx : Nat) (w1 : World), Below w.heap.size w w1 → Cells w1 A (ints L[j]) → Calls Tryz.prog k (#[.slice A L[j].length cx] ++ caps) w1 fun e w2 => e = .returned (.bool (p L[j])) ∧ Below w1.heap.size w1 w2
def idxR (p : List Int → Bool) (L : List (List Int)) : Int := match L.findIdx? p with | some i => (i : Int) | none => -1
theorem idxR_none {p : List Int → Bool} {xs : List (List Int)} (h : ∀ j (h : j < xs.length), p xs[j] = false) : idxR p xs = -1 := by
  have : xs.findIdx? p = none := by
    rw [List.findIdx?_eq_none_iff]
    intro x hx
    obtain ⟨j, hj, rfl⟩ := List.getElem_of_mem hx
    exact h j hj
  simp [idxR, this]
theorem idxR_some {p : List Int → Bool} {xs : List (List Int)} {i : Nat} (hi : i < xs.length) (h : ∀ j (h : j < xs.length), j < i → p xs[j] = false) (hp : p xs[i] = true) : idxR p xs = i := by
  have : xs.findIdx? p = some i := by
    rw [List.findIdx?_eq_some_iff_getElem]
    exact ⟨hi, hp, fun j hj => by simp [h j (by omega) hj]⟩
  simp [idxR, this]
set_option maxRecDepth 100000 in
set_option maxHeartbeats 1000000 in
theorem indexFuncR_c (L : List (List Int)) (A : Option Addr) (cx : Nat) (k : FuncId) (caps : Array Value) (p : List Int → Bool) (w : World)
    (hk : ∀ args w, Sem.run Tryz.prog (callFunc k args) w = .ok (.enter k args) w) (hx : RowsC w A L) (hl : L.length ≤ 1000000000) (hp : PredR w k caps p L) :
    Calls Tryz.prog 105 #[.slice A L.length cx, .func (.func k) #[] caps] w fun e w' =>
      e = .returned (.int .i64 (idxR p L)) ∧ Below w.heap.size w w' := by
  go_enter Tryz.func105, Tryz.ntmps105
  go_wp2
  go_loopw [8] (fun i wr => ∃ k : Nat, k ≤ L.length ∧ i = .int .i64 k ∧ Hid (∀ j (h : j < L.length), j < k → p L[j] = false) ∧ Below w.heap.size w wr) (fun i _ => L.length - (intOf i).toNat)
  case atStart => exact ⟨0, by omega, rfl, fun j _ h => by omega, Below.refl _ _⟩
  case round =>
    obtain ⟨i, hi, rfl, Hn, hb⟩ := hrel
    by_cases h1 : i < L.length
    · obtain ⟨b, off, A1, c1, rfl, hlt, c0, r1⟩ := (hx.below hb) i h1
      have Hc := Lib.hid (hp i h1 A1 c1 wr hb r1)
      have Hb := Lib.hid hb
      clear hp hx r1 hb
      cases hpx : p L[i]
      · have Hpx := Lib.hid hpx
        rw [hpx] at Hc
        clear hpx
        go_wp2_with fail
        refine Hc.out.mono ?_
        rintro e w1 ⟨rfl, hb1⟩
        go_wp2
        go_roundw
        case rel => exact ⟨i + 1, by omega, by go_num, fun j h hj => by
          by_cases e : j = i
          · subst e; exact Hpx.out
          · exact Hn.out j h (by omega), by have h3 := Hb.out; (repeat (first | (with_reducible exact Below.refl _ _) | (with_reducible assumption) | (with_reducible refine below_al ?_) | (with_reducible refine below_dr ?_) | (with_reducible refine below_drN ?_) | (with_reducible refine below_set ?_ (by first | exact Nat.le_refl _ | (dsimp only; omega) | omega)) | (with_reducible refine below_tr (by with_reducible assumption) ?_)))⟩
        case measure => simp [intOf]; omega
      · have Hpx := Lib.hid hpx
        rw [hpx] at Hc
        clear hpx
        go_wp2_with fail
        refine Hc.out.mono ?_
        rintro e w1 ⟨rfl, hb1⟩
        go_wp2
        go_ret
        exact ⟨ret_int (idxR_some h1 Hn.out Hpx.out).symm, by have h3 := Hb.out; (repeat (first | (with_reducible exact Below.refl _ _) | (with_reducible assumption) | (with_reducible refine below_al ?_) | (with_reducible refine below_dr ?_) | (with_reducible refine below_drN ?_) | (with_reducible refine below_set ?_ (by first | exact Nat.le_refl _ | (dsimp only; omega) | omega)) | (with_reducible refine below_tr (by with_reducible assumption) ?_)))⟩
    · go_wp2
      go_ret
      exact ⟨ret_int (idxR_none (fun j h => Hn.out j h (by omega))).symm, hb⟩
end Go.Proofs.YtnoehaphbpkpjaaGreat
namespace Go.Proofs.YtnoehaphbpkpjaaGreat
open Go.RowKit
theorem app_intsN {o : Oper} {a : Act} {W : World} {K : Act → World → Prop} {Q : Exit → Act → World → Prop} (s x : Operand)
    (ho : o.op = .call { callee := .builtin .append, args := #[s, x], argTypes := #[39, 39] }) (B : Nat) (v : Value) (xs ys : List Int) (hs : a.eval s = v) (hown : OwnI W B v xs)
    (b off cap : Nat) (hx : a.eval x = .slice (some ⟨b, off, none⟩) ys.length cap) (hc : ∀ j (h : j < ys.length), W.cell? ⟨b, off + j, none⟩ = some (.int .i64 ys[j])) (hl : xs.length + ys.length ≤ 1000000000000) (hB : B ≤ W.heap.size)
    (h : ∀ v' w', OwnI w' B v' (xs ++ ys) → W.grownBy w' v.ownBlock → (v'.ownBlock = v.ownBlock ∨ v'.ownBlock = some W.heap.size) → K (a.put o.dst v') w') : o.wp Tryz.prog a W K Q := by
  refine app_gen s x 39 2 (.int .i64 0) 1 8 ho Tryz.underlying39 infoInt rfl (by decide) B v xs.length (ints xs) hs hown ⟨b, off, none⟩ ys.length cap (ints ys) hx (by rw [ints_length, Nat.mul_one]) ?_ ?_ ?_ ?_ hB ?_
  · intro j u hj
    rw [add_off]
    have hj2 : j < ys.length := by
      have := (List.getElem?_eq_some_iff.1 hj).1
      rwa [ints_length] at this
    rw [hc j hj2]
    rw [← hj]
    simp [ints, hj2]
  · intro u hu
    simp only [ints, List.mem_map] at hu
    obtain ⟨z, _, rfl⟩ := hu
    rfl
  · simp [maxLen]; omega
  · omega
  · intro v' w' h1 h2 h3
    refine h v' w' ?_ h2 h3
    unfold OwnI
    have e : ints (xs ++ ys) = ints xs ++ ints ys := by simp [ints]
    rw [e, List.length_append]
    exact h1
/-- the slices of a list of slices have room for what they hold -/
def CapsC (w : World) (B : Option Addr) (L : List (List Int)) : Prop :=
  ∀ k (h : k < L.length) b off A cx, B = some ⟨b, off, none⟩ → w.cell? ⟨b, off + k, none⟩ = some (.slice A L[k].length cx) → L[k].length ≤ cx
theorem CapsC.below {w w1 : World} {B : Option Addr} {L : List (List Int)} (h : CapsC w B L) (hR : RowsC w B L) (hb : Below w.heap.size w w1) : CapsC w1 B L := by
  intro k hk b off A cx e hc
  obtain ⟨b', off', A', cx', e', hlt, hc', _⟩ := hR k hk
  rw [e] at e'
  injection e' with e'
  injection e' with e1 e2
  subst e1 e2
  rw [(hb.cell (p := ⟨b, _, none⟩) hlt)] at hc
  exact h k hk b off A cx e hc
theorem OwnI.cap {w : World} {B n cx : Nat} {A : Option Addr} {xs : List Int} (h : OwnI w B (.slice A n cx) xs) : xs.length ≤ cx := by
  obtain ⟨h1, h2⟩ := h
  rcases h2 with ⟨e1, e2⟩ | ⟨g', cap, cur, e1, _, _, e4, _⟩
  · omega
  · injection e1 with a1 a2 a3; omega
theorem OwnII.caps {w : World} {B n cx : Nat} {A : Option Addr} {L : List (List Int)} (h : OwnII w B (.slice A n cx) L) : CapsC w A L := by
  intro k hk b off A' cx' e hc
  obtain ⟨vs, h1, h2, _⟩ := h
  have hl : vs.length = L.length := by have := h1.1; omega
  have h0 := h1
  obtain ⟨_, h3⟩ := h1
  rcases h3 with ⟨h3, h4⟩ | ⟨g, cap, cur, e1, e2, e3, _⟩
  · omega
  · injection e1 with a1 a2 a3
    subst a1 a2 a3
    injection e with e
    injection e with e5 e6
    subst e5 e6
    have h9 := World.ownsRow.cellAt h0 k (by omega)
    rw [Nat.zero_add, h9, List.getElem?_eq_getElem (by omega)] at hc
    have ho := h2 k (by omega) hk
    rw [Option.some.inj hc] at ho
    exact ho.cap
end Go.Proofs.YtnoehaphbpkpjaaGreat
namespace Go.Proofs.YtnoehaphbpkpjaaGreat
open Go.RowKit
theorem infoBool : (Tryz.prog.info? 4).map (fun i => (i.zero, i.size, i.bytes)) = some (some (.bool false), 1, 1) := by kernel_rfl
def bools (xs : List Bool) : List Value := xs.map fun x => .bool x
theorem bools_length (xs : List Bool) : (bools xs).length = xs.length := by simp [bools]
theorem bools_set (xs : List Bool) (k : Nat) (x : Bool) : (bools xs).set k (.bool x) = bools (xs.set k x) := by simp [bools, List.map_set]
theorem Blk.bool {w : World} {b : Nat} {xs : List Bool} {T : TypeId} (h : Blk w b (bools xs) T) (k : Nat) (hk : k < xs.length) : w.cell? ⟨b, k, none⟩ = some (.bool xs[k]) := by
  rw [h.cell k (by rw [bools_length]; exact hk)]; simp [bools]
theorem Blk.setBool {w : World} {b : Nat} {xs : List Bool} {T : TypeId} (h : Blk w b (bools xs) T) (k : Nat) (x : Bool) : Blk (w.setCell ⟨b, k, none⟩ (.bool x)) b (bools (xs.set k x)) T := by
  rw [← bools_set]; exact h.set k _
/-- which tiles were met, and the list of those that still are to be looked at -/
structure Met where
  met : List Bool
  list : List Int
def metOne (s : Met) (j : Int) : Met := if s.met.getD j.toNat false = true then s else ⟨s.met.set j.toNat true, s.list ++ [j]⟩
def metRow (row : List Int) (s : Met) (m : Nat) : Met := (row.take m).foldl metOne s
def metStep (L : List (List Int)) (s : Met) (k : Nat) : Met := metRow (L.getD (s.list.getD k 0).toNat []) s 4
def metTo (L : List (List Int)) (i : Int) : Nat → Met
  | 0 => ⟨(List.replicate L.length false).set i.toNat true, [i]⟩
  | k + 1 => metStep L (metTo L i k) k
theorem metRow_succ {row : List Int} {s : Met} {m : Nat} (h : m < row.length) : metRow row s (m + 1) = metOne (metRow row s m) row[m] := by
  unfold metRow; rw [List.take_succ_eq_append_getElem h, List.foldl_append]; rfl
theorem metRow_zero (row : List Int) (s : Met) : metRow row s 0 = s := by simp [metRow]
/-- what holds of all that is met: the list has each tile that was met, once -/
theorem getB_self {xs : List Bool} {m : Nat} (h : m < xs.length) : (xs.set m true).getD m false = true := by simp [h]
theorem getB_ne {xs : List Bool} {m k : Nat} (h : m ≠ k) : (xs.set m true).getD k false = xs.getD k false := by simp [List.getElem?_set_ne h]
def MetOk (N : Nat) (s : Met) : Prop := s.met.length = N ∧ (∀ x ∈ s.list, 0 ≤ x ∧ x < (N : Int) ∧ s.met.getD x.toNat false = true) ∧ s.list.Nodup
theorem metOne_ok {N : Nat} {s : Met} (h : MetOk N s) {j : Int} (j0 : 0 ≤ j) (j1 : j < N) : MetOk N (metOne s j) := by
  obtain ⟨h1, h2, h3⟩ := h
  obtain ⟨m, rfl⟩ := Int.eq_ofNat_of_zero_le j0
  have hm : m < N := by omega
  unfold metOne
  split
  · exact ⟨h1, h2, h3⟩
  · rename_i hf
    refine ⟨by simpa using h1, fun x hx => ?_, ?_⟩
    · rcases List.mem_append.1 hx with hx | hx
      · obtain ⟨a, b, c⟩ := h2 x hx
        refine ⟨a, b, ?_⟩
        rw [Int.toNat_natCast]
        by_cases e : m = x.toNat
        · rw [← e]; exact getB_self (by omega)
        · rw [getB_ne e]; exact c
      · simp at hx; subst hx
        exact ⟨by omega, by omega, getB_self (by rw [Int.toNat_natCast]; omega)⟩
    · rw [List.nodup_append]
      refine ⟨h3, by simp, fun x hx y hy => ?_⟩
      simp at hy; subst hy
      intro e; subst e
      exact hf (h2 _ hx).2.2
theorem metRow_ok {N : Nat} {row : List Int} {s : Met} (h : MetOk N s) (hr : ∀ j (hj : j < row.length), 0 ≤ row[j] ∧ row[j] < N) : ∀ m, m ≤ row.length → MetOk N (metRow row s m)
  | 0, _ => by rw [metRow_zero]; exact h
  | m + 1, hm => by
    rw [metRow_succ (by omega)]
    exact metOne_ok (metRow_ok h hr m (by omega)) (hr m (by omega)).1 (hr m (by omega)).2
theorem nodup_pigeon {N : Nat} {l : List Int} (h : l.Nodup) (hr : ∀ x ∈ l, 0 ≤ x ∧ x < (N : Int)) : l.length ≤ N := by
  refine pigeon N (fun k => l.getD k 0) l.length (fun a ha => ?_) (fun a b hab hb => ?_)
  · rw [show l.getD a 0 = l[a] by simp [ha]]; exact hr _ (List.getElem_mem ha)
  · have ha : a < l.length := by omega
    rw [show l.getD a 0 = l[a] by simp [ha], show l.getD b 0 = l[b] by simp [hb]]
    exact fun e => (List.pairwise_iff_getElem.1 h) a b ha hb hab e
theorem MetOk.len {N : Nat} {s : Met} (h : MetOk N s) : s.list.length ≤ N := nodup_pigeon h.2.2 (fun x hx => ⟨(h.2.1 x hx).1, (h.2.1 x hx).2.1⟩)
theorem metOne_len (s : Met) (j : Int) : s.list.length ≤ (metOne s j).list.length := by unfold metOne; split <;> simp
theorem metRow_len (row : List Int) (s : Met) (m : Nat) : s.list.length ≤ (metRow row s m).list.length := by
  unfold metRow
  generalize row.take m = l
  induction l generalizing s with
  | nil => exact Nat.le_refl _
  | cons x l ih => rw [List.foldl_cons]; exact Nat.le_trans (metOne_len s x) (ih _)
theorem metOne_pre (s : Met) (j : Int) : ∃ t, (metOne s j).list = s.list ++ t := by unfold metOne; split; exact ⟨[], by simp⟩; exact ⟨[j], rfl⟩
theorem metRow_pre (row : List Int) (s : Met) (m : Nat) : ∃ t, (metRow row s m).list = s.list ++ t := by
  unfold metRow
  generalize row.take m = l
  induction l generalizing s with
  | nil => exact ⟨[], by simp⟩
  | cons x l ih =>
    rw [List.foldl_cons]
    obtain ⟨t, ht⟩ := ih (metOne s x)
    obtain ⟨u, hu⟩ := metOne_pre s x
    exact ⟨u ++ t, by rw [ht, hu, List.append_assoc]⟩
def PreEnd (L : List (List Int)) (i : Int) (k : Nat) : Prop := ∀ j, j < k → j < (metTo L i j).list.length
def IsEnd (L : List (List Int)) (i : Int) (k : Nat) : Prop := PreEnd L i k ∧ (metTo L i k).list.length ≤ k
theorem IsEnd.uniq {L : List (List Int)} {i : Int} {k k' : Nat} (h : IsEnd L i k) (h' : IsEnd L i k') : k = k' := by
  rcases Nat.lt_trichotomy k k' with hh | hh | hh
  · have := h'.1 k hh; have := h.2; omega
  · exact hh
  · have := h.1 k' hh; have := h'.2; omega
noncomputable def endOf (L : List (List Int)) (i : Int) : Nat := open Classical in if h : ∃ k, IsEnd L i k then h.choose else 0
theorem endOf_eq {L : List (List Int)} {i : Int} {k : Nat} (h : IsEnd L i k) : endOf L i = k := by
  have he : ∃ k, IsEnd L i k := ⟨k, h⟩
  unfold endOf
  rw [dif_pos he]
  exact he.choose_spec.uniq h
noncomputable def metV (L : List (List Int)) (i : Int) : List Bool := (metTo L i (endOf L i)).met
theorem metTo_ok {N : Nat} {L : List (List Int)} (hB : Blocks N L) {i : Int} (h0 : 0 ≤ i) (h1 : i < N) : ∀ k, PreEnd L i k → MetOk N (metTo L i k)
  | 0, _ => by
    obtain ⟨m, rfl⟩ := Int.eq_ofNat_of_zero_le h0
    refine ⟨by simp [metTo, hB.1], fun x hx => ?_, by simp [metTo]⟩
    simp [metTo] at hx; subst hx
    exact ⟨by omega, h1, getB_self (by simp [hB.1]; omega)⟩
  | k + 1, hp => by
    have ih := metTo_ok hB h0 h1 k (fun j hj => hp j (by omega))
    have hk := hp k (by omega)
    obtain ⟨a, b, _⟩ := ih.2.1 _ (List.getElem_mem hk)
    obtain ⟨m, hm⟩ := Int.eq_ofNat_of_zero_le a
    have hmL : m < L.length := by rw [hB.1]; omega
    have h4 := (hB.2 m hmL)
    show MetOk N (metStep L (metTo L i k) k)
    unfold metStep
    rw [show (metTo L i k).list.getD k 0 = (metTo L i k).list[k] by simp [hk], hm, Int.toNat_natCast, show L.getD m [] = L[m] by simp [hmL]]
    exact metRow_ok ih h4.2 4 (by rw [h4.1]; omega)
theorem metTo_step {N : Nat} {L : List (List Int)} (hB : Blocks N L) {i : Int} (h0 : 0 ≤ i) (h1 : i < N) {k : Nat} (hp : PreEnd L i k) (hk : k < (metTo L i k).list.length) :
    ∃ m, ∃ h : m < L.length, (metTo L i k).list[k] = (m : Int) ∧ metTo L i (k + 1) = metRow L[m] (metTo L i k) 4 := by
  obtain ⟨a, b, _⟩ := (metTo_ok hB h0 h1 k hp).2.1 _ (List.getElem_mem hk)
  obtain ⟨m, hm⟩ := Int.eq_ofNat_of_zero_le a
  have hmL : m < L.length := by rw [hB.1]; omega
  refine ⟨m, hmL, hm, ?_⟩
  show metStep L (metTo L i k) k = _
  unfold metStep
  rw [show (metTo L i k).list.getD k 0 = (metTo L i k).list[k] by simp [hk], hm, Int.toNat_natCast, show L.getD m [] = L[m] by simp [hmL]]
theorem Blk.grown {w w' : World} {b : Nat} {cs : List Value} {T : TypeId} {row : Option Nat} (h : Blk w b cs T) (hg : w.grownBy w' row) (hne : some b ≠ row) : Blk w' b cs T := by
  obtain ⟨_, _, _, _, g5⟩ := hg
  exact (g5 b h.lt hne).trans h
theorem made_bools (n j : Nat) : ((madeCells #[Value.bool false] n).setIfInBounds j (.bool true)).toList = bools ((List.replicate n false).set j true) := by
  rw [Array.toList_setIfInBounds, toList_madeCells_one, ← bools_set]; simp [bools]
theorem made_bools0 (n : Nat) : (madeCells #[Value.bool false] n).toList = bools (List.replicate n false) := by
  rw [toList_madeCells_one]; simp [bools]
end Go.Proofs.YtnoehaphbpkpjaaGreat
namespace Go.Proofs.YtnoehaphbpkpjaaGreat
open Go.RowKit
theorem laidB : laidOutB Tryz.prog = true := by kernel_rfl
theorem ownKnobF : ownKnob Tryz.prog.godebug = none := by kernel_rfl
theorem cellsInt : Tryz.prog.cellsOf 2 = 1 := by kernel_rfl
end Go.Proofs.YtnoehaphbpkpjaaGreat
namespace Go.Proofs.YtnoehaphbpkpjaaGreat
open Go.RowKit
theorem carAt_range {p q a b i : Int} (hp : 1 ≤ p) (hq : 1 ≤ q) (hb : 1 ≤ b) (ha : 0 ≤ a) (hi : 0 ≤ i) : 1 - p ≤ carAt p q a b i ∧ carAt p q a b i ≤ q - 1 := by
  unfold carAt
  have hm : 0 ≤ i * a := Int.mul_nonneg hi ha
  generalize i * a = m at *
  have hbq : 0 < b * q := Int.mul_pos (by omega) (by omega)
  have h1 : m / b * b ≤ m := Int.ediv_mul_le m (by omega)
  have h2 : m < (m / b + 1) * b := Int.lt_ediv_add_one_mul_self m (by omega)
  have h3 : m * p / (b * q) * (b * q) ≤ m * p := Int.ediv_mul_le _ (by omega)
  have h4 : m * p < (m * p / (b * q) + 1) * (b * q) := Int.lt_ediv_add_one_mul_self _ hbq
  generalize m / b = x at *
  generalize m * p / (b * q) = y at *
  have e1 : x * b * p ≤ m * p := Int.mul_le_mul_of_nonneg_right h1 (by omega)
  have e2 : m * p < (x + 1) * b * p := Int.mul_lt_mul_of_pos_right h2 (by omega)
  have k1 : p * x < q * y + q := by
    refine Int.lt_of_mul_lt_mul_right (a := b) ?_ (by omega)
    have a1 : p * x * b = x * b * p := by simp only [Int.mul_comm, Int.mul_left_comm, Int.mul_assoc]
    have a2 : (q * y + q) * b = (y + 1) * (b * q) := by
      rw [show q * y + q = q * (y + 1) by rw [Int.mul_add, Int.mul_one]]
      simp only [Int.mul_comm, Int.mul_left_comm, Int.mul_assoc]
    omega
  have k2 : q * y < p * x + p := by
    refine Int.lt_of_mul_lt_mul_right (a := b) ?_ (by omega)
    have a1 : q * y * b = y * (b * q) := by simp only [Int.mul_comm, Int.mul_left_comm, Int.mul_assoc]
    have a2 : (p * x + p) * b = (x + 1) * b * p := by
      rw [show p * x + p = p * (x + 1) by rw [Int.mul_add, Int.mul_one]]
      simp only [Int.mul_comm, Int.mul_left_comm, Int.mul_assoc]
    omega
  omega
theorem carAt_zero (p q a b : Int) : carAt p q a b 0 = 0 := by simp [carAt]
theorem digAt_range {a b i : Int} (hb : 1 ≤ b) : a / b ≤ digAt a b i ∧ digAt a b i ≤ a / b + 1 := by
  unfold digAt
  have e : i * a = (i - 1) * a + a := by rw [Int.sub_mul, Int.one_mul]; omega
  rw [e]
  generalize (i - 1) * a = m at *
  have h1 : m / b * b ≤ m := Int.ediv_mul_le m (by omega)
  have h2 : m < (m / b + 1) * b := Int.lt_ediv_add_one_mul_self m (by omega)
  have h3 : a / b * b ≤ a := Int.ediv_mul_le a (by omega)
  have h4 : a < (a / b + 1) * b := Int.lt_ediv_add_one_mul_self a (by omega)
  have h5 : (m + a) / b * b ≤ m + a := Int.ediv_mul_le _ (by omega)
  have h6 : m + a < ((m + a) / b + 1) * b := Int.lt_ediv_add_one_mul_self _ (by omega)
  generalize m / b = x at *
  generalize a / b = y at *
  generalize (m + a) / b = z at *
  have k1 : x + y < z + 1 := by
    refine Int.lt_of_mul_lt_mul_right (a := b) ?_ (by omega)
    have : (x + y) * b = x * b + y * b := Int.add_mul _ _ _
    omega
  have k2 : z < x + y + 2 := by
    refine Int.lt_of_mul_lt_mul_right (a := b) ?_ (by omega)
    have a1 : (x + y + 2) * b = (x + 1) * b + (y + 1) * b := by rw [← Int.add_mul]; congr 1; omega
    omega
  omega

end Go.Proofs.YtnoehaphbpkpjaaGreat
