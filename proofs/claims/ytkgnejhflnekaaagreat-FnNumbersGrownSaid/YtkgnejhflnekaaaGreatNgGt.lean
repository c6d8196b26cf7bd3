/- Contracts and lemmas for the statements of this seat, written for this claim; each theorem states its own conditions. -/
import Derived.Test.YtkgnejhflnekaaaGreatNgGr
set_option linter.unusedVariables false
set_option linter.unusedSimpArgs false
namespace Go.Proofs.YtkgnejhflnekaaaGreat
open Go.RowKit
theorem NumsIn_iff {N : Nat} {rows : List (List Int)} : NumsIn N rows ↔ ∀ r ∈ rows, ∀ x ∈ r, 0 ≤ x ∧ x < (N : Int) := by
  constructor
  · intro h r hr x hx
    obtain ⟨k, hk, rfl⟩ := List.getElem_of_mem hr
    obtain ⟨j, hj, rfl⟩ := List.getElem_of_mem hx
    exact h k hk j hj
  · intro h k hk j hj
    exact h _ (List.getElem_mem hk) _ (List.getElem_mem hj)
theorem Short_iff {n : Nat} {rows : List (List Int)} : Short n rows ↔ ∀ r ∈ rows, r.length ≤ n := by
  constructor
  · intro h r hr
    obtain ⟨k, hk, rfl⟩ := List.getElem_of_mem hr
    exact h k hk
  · intro h k hk
    exact h _ (List.getElem_mem hk)
theorem mem_grownL {L rows : List (List Int)} {r : List Int} : r ∈ grownL L rows ↔ ∃ row ∈ rows, r = gTop L row ∨ r = gBot L row := by
  unfold grownL; simp [List.mem_flatMap]
theorem grownL_nums {N : Nat} {L rows : List (List Int)} (hB : Blocks N L) (h : NumsIn N rows) : NumsIn N (grownL L rows) := by
  rw [NumsIn_iff] at *
  intro r hr x hx
  have key : ∀ i : Int, 0 ≤ i ∧ i < N → ∀ y ∈ L.getD i.toNat [], 0 ≤ y ∧ y < (N : Int) := fun i hi y hy => by
    obtain ⟨m, rfl⟩ := Int.eq_ofNat_of_zero_le hi.1
    have hm : m < L.length := by rw [hB.1]; omega
    rw [Int.toNat_natCast, show L.getD m [] = L[m] by simp [hm]] at hy
    obtain ⟨j, hj, rfl⟩ := List.getElem_of_mem hy
    exact (hB.2 m hm).2 j hj
  obtain ⟨row, hrow, rfl | rfl⟩ := mem_grownL.1 hr
  · obtain ⟨i, hi, hx⟩ := List.mem_flatMap.1 hx
    exact key i (h row hrow i hi) x (List.mem_of_mem_take hx)
  · obtain ⟨i, hi, hx⟩ := List.mem_flatMap.1 hx
    exact key i (h row hrow i hi) x (List.mem_of_mem_drop hx)
theorem grownL_short {N n : Nat} {L rows : List (List Int)} (hB : Blocks N L) (h : NumsIn N rows) (hs : Short n rows) : Short (2 * n) (grownL L rows) := by
  rw [Short_iff] at *
  rw [NumsIn_iff] at h
  intro r hr
  obtain ⟨row, hrow, e⟩ := mem_grownL.1 hr
  have hl := gTop_len hB (row := row) (fun j hj => h row hrow _ (List.getElem_mem hj))
  have := hs row hrow
  rcases e with rfl | rfl <;> omega
theorem tot_le {n : Nat} : ∀ {L : List (List Int)}, (∀ r ∈ L, r.length ≤ n) → tot L ≤ n * L.length
  | [], _ => by simp [tot]
  | r :: L, h => by
    rw [show tot (r :: L) = r.length + tot L by simp [tot], List.length_cons, Nat.mul_add]
    have h1 := h r (List.mem_cons_self ..)
    have h2 := tot_le (L := L) (fun x hx => h x (List.mem_cons_of_mem _ hx))
    omega
/-- what a call gives back that returns a new list of lists of numbers and a code -/
def RetIIC3 (w : World) (L : List (List Int)) (c : Int) (e : Ending) (w' : World) : Prop :=
  ∃ v, e = .returned (.tuple #[v, .int .i64 c]) ∧ OwnII w' w.heap.size v L ∧ Below w.heap.size w w'
theorem OwnII.one {w : World} {B g : Nat} (x : Int) (hg : w.heap.size = g) (hB : B ≤ w.heap.size) : OwnII ((w.alloc (.cells #[.int .i64 x] 2)).alloc (.cells #[.slice (some ⟨g, 0, none⟩) 1 1] 35)) B (.slice (some ⟨g + 1, 0, none⟩) 1 1) [[x]] := by
  subst hg
  refine ⟨[.slice (some ⟨w.heap.size, 0, none⟩) 1 1], ?_, fun i h h' => ?_, fun i j h h' hij => ?_, fun i h => ?_⟩
  · have := World.ownsRow_lit (base := B) (e := 35) (size := 1) (w.alloc (.cells #[.int .i64 x] 2)) #[.slice (some ⟨w.heap.size, 0, none⟩) 1 1] 1 (by simp; omega) (by simp [maxLen]) (by simp)
    simpa using this
  · have hi : i = 0 := by simp at h; omega
    subst hi
    exact (OwnI.made w B #[.int .i64 x] [x] rfl hB (by simp)).alloc _
  · simp at h h'; omega
  · have hi : i = 0 := by simp at h; omega
    subst hi
    exact Apart.blk (by omega)
def growAt (L : List (List Int)) (i : Int) : Nat → List (List Int)
  | 0 => [[i]]
  | k + 1 => grownL L (growAt L i k)
theorem growAt_ok {N : Nat} {L : List (List Int)} (hB : Blocks N L) {i : Int} (h0 : 0 ≤ i) (h1 : i < N) : ∀ k, NumsIn N (growAt L i k) ∧ Short (2 ^ k) (growAt L i k) ∧ (growAt L i k).length = 2 ^ k
  | 0 => ⟨NumsIn_iff.2 (by simp [growAt]; omega), Short_iff.2 (by simp [growAt]), rfl⟩
  | k + 1 => by
    obtain ⟨a, b, c⟩ := growAt_ok hB h0 h1 k
    refine ⟨grownL_nums hB a, ?_, ?_⟩
    · have := grownL_short hB a b
      rwa [← Nat.pow_succ'] at this
    · show (grownL L (growAt L i k)).length = _
      rw [grownL_len, c, Nat.pow_succ']
def growCode (c : Int) (ts : List T4) (L : List (List Int)) (i n : Int) : Int := codeB (isSetB c ts) (stepB ts.length L i n 3)
def growV (c : Int) (ts : List T4) (L : List (List Int)) (i n : Int) : List (List Int) := if growCode c ts L i n = 0 then growAt L i n.toNat else []
theorem growV_len (c : Int) (ts : List T4) (L : List (List Int)) (i n : Int) : (growV c ts L i n).length ≤ 8 ∧ Short 1000000000 (growV c ts L i n) ∧ tot (growV c ts L i n) ≤ 64 := by
  unfold growV
  split
  · rename_i h
    obtain ⟨h1, h2⟩ := codeB_zero h
    obtain ⟨hB, ⟨i0, i1⟩, n0, n1⟩ := stepB_parts h2
    obtain ⟨m, rfl⟩ := Int.eq_ofNat_of_zero_le n0
    rw [Int.toNat_natCast]
    have hm : m ≤ 3 := by omega
    obtain ⟨_, b, c⟩ := growAt_ok hB i0 i1 m
    have hp : 2 ^ m ≤ 8 := Nat.pow_le_pow_right (by omega) hm
    have hsb := Short_iff.1 b
    have ht := tot_le hsb
    rw [c] at ht ⊢
    refine ⟨hp, Short_iff.2 (fun r hr => by have := hsb r hr; omega), Nat.le_trans ht (Nat.mul_le_mul hp hp)⟩
  · exact ⟨by simp, fun k hk => by simp at hk, by simp [tot]⟩
set_option maxRecDepth 100000 in
set_option maxHeartbeats 1000000 in
theorem implGrowTile_c (c : Int) (ts : List T4) (A : Option Addr) (cx : Nat) (L : List (List Int)) (B : Option Addr) (cr : Nat) (i n : Int) (w : World) (hT : TileCells w A ts) (hl : ts.length ≤ 1000000000) (hR : RowsC w B L) (hn : L.length ≤ 1000000000) (hS : Short 1000000000 L) (hK : CapsC w B L) :
    Calls Tryz.prog 35 #[.agg #[.int .i64 c, .slice A ts.length cx], .slice B L.length cr, .int .i64 i, .int .i64 n] w (RetIIC3 w (growV c ts L i n) (growCode c ts L i n)) := by
  have HC := Lib.hid (fun (wq : World) (hq : Below w.heap.size w wq) => stepsCode_c c ts A cx L B cr i n 3 wq (hT.below hq) hl (hR.below hq) hn hS)
  have HG := Lib.hid (fun (rows : List (List Int)) (R : Option Addr) (cR : Nat) (wq : World) (hq : Below w.heap.size w wq) (hB : Blocks ts.length L) (hM : RowsC wq R rows) (hI : NumsIn ts.length rows) (h1 : rows.length ≤ 1000) (h2 : Short 1000 rows) => grown_c L B cr rows R cR ts.length wq (hR.below hq) (hK.below hR hq) hB hM hI h1 h2)
  have HV : Hid (growCode c ts L i n = codeB (isSetB c ts) (stepB ts.length L i n 3)) := rfl
  have HV1 : Hid (growV c ts L i n = if growCode c ts L i n = 0 then growAt L i n.toNat else []) := rfl
  clear hT
  by_cases h0 : codeB (isSetB c ts) (stepB ts.length L i n 3) = 0
  · obtain ⟨hs, hst⟩ := codeB_zero h0
    obtain ⟨hB, ⟨i0, i1⟩, n0, n1⟩ := stepB_parts hst
    obtain ⟨m, rfl⟩ := Int.eq_ofNat_of_zero_le n0
    have HOK := Lib.hid (growAt_ok hB i0 i1)
    have HB := Lib.hid hB
    rw [h0] at HV HC
    have hc0 := HV.out
    have HF1 : Hid (growV c ts L i m = growAt L i m) := by rw [Hid, HV1.out, if_pos hc0]; rfl
    rw [hc0]
    clear hs hst hB i0 i1 h0 hc0 HV HV1 hS hR
    go_enter Tryz.func35, Tryz.ntmps35
    go_wp2_with fail
    refine (HC.out _ (by (repeat (first | (with_reducible exact Below.refl _ _) | (with_reducible assumption) | (with_reducible refine below_al ?_) | (with_reducible refine below_dr ?_) | (with_reducible refine below_drN ?_) | (with_reducible refine below_set ?_ (by first | exact Nat.le_refl _ | (dsimp only; omega) | omega)) | (with_reducible refine below_tr (by with_reducible assumption) ?_))))).mono ?_
    rintro e w1 ⟨rfl, hb1⟩
    have Hw1 : Hid (Below w.heap.size w w1) := by (show Below _ _ _); (repeat (first | (with_reducible exact Below.refl _ _) | (with_reducible assumption) | (with_reducible refine below_al ?_) | (with_reducible refine below_dr ?_) | (with_reducible refine below_drN ?_) | (with_reducible refine below_set ?_ (by first | exact Nat.le_refl _ | (dsimp only; omega) | omega)) | (with_reducible refine below_tr (by with_reducible assumption) ?_)))
    clear hb1
    go_wp2_with fail
    go_loopw [11, 24] (fun v x wr => ∃ k : Nat, k ≤ m ∧ x = .int .i64 k ∧ OwnII wr w.heap.size v (growAt L i k) ∧ Below w.heap.size w wr) (fun _ x _ => m - (intOf x).toNat)
    case atStart => exact ⟨0, by omega, rfl, OwnII.one i rfl Hw1.out.size, by have h1 := Hw1.out; (repeat (first | (with_reducible exact Below.refl _ _) | (with_reducible assumption) | (with_reducible refine below_al ?_) | (with_reducible refine below_dr ?_) | (with_reducible refine below_drN ?_) | (with_reducible refine below_set ?_ (by first | exact Nat.le_refl _ | (dsimp only; omega) | omega)) | (with_reducible refine below_tr (by with_reducible assumption) ?_)))⟩
    case round =>
      obtain ⟨k, hk, rfl, hO, hb⟩ := hrel
      by_cases hkm : k < m
      · skip
        have hp : 2 ^ k ≤ 8 := Nat.pow_le_pow_right (by omega) (show k ≤ 3 by omega)
        obtain ⟨o1, o2, o3⟩ := HOK.out k
        obtain ⟨A3, cx3, rfl, hM⟩ := hO.rows
        have HX := Lib.hid (HG.out (growAt L i k) A3 cx3 wr hb HB.out hM o1 (by omega) (Short_iff.2 (fun r hr => by have := Short_iff.1 o2 r hr; omega)))
        have HGS : Hid (growAt L i (k + 1) = grownL L (growAt L i k)) := rfl
        have Hb := Lib.hid hb
        clear hO hM hb o1 o2 o3 hp
        go_wp2_with fail
        refine HX.out.mono ?_
        rintro e w2 ⟨v, rfl, hO2, hb2⟩
        have HO2 := Lib.hid hO2
        have Hb2 := Lib.hid hb2
        clear hO2 hb2
        go_wp2_with fail
        go_roundw
        case rel => exact ⟨k + 1, by omega, by go_num, by rw [HGS.out]; exact HO2.out.weaken Hb.out.size, Hb.out.trans (Hb2.out.mono Hb.out.size)⟩
        case measure => simp [intOf]; omega
      · obtain rfl : k = m := by omega
        have HO := Lib.hid hO
        have Hb := Lib.hid hb
        clear hO hb
        go_wp2
        go_ret2
        exact ⟨_, rfl, by rw [HF1.out]; exact HO.out, Hb.out⟩
  · have HF1 : Hid (growV c ts L i n = []) := by rw [Hid, HV1.out, HV.out, if_neg h0]
    rw [HV.out]
    generalize codeB (isSetB c ts) (stepB ts.length L i n 3) = d at *
    have hne : (d != 0) = true := by simpa using h0
    clear h0 hR
    go_enter Tryz.func35, Tryz.ntmps35
    go_wp2_with fail
    refine (HC.out _ (by (repeat (first | (with_reducible exact Below.refl _ _) | (with_reducible assumption) | (with_reducible refine below_al ?_) | (with_reducible refine below_dr ?_) | (with_reducible refine below_drN ?_) | (with_reducible refine below_set ?_ (by first | exact Nat.le_refl _ | (dsimp only; omega) | omega)) | (with_reducible refine below_tr (by with_reducible assumption) ?_))))).mono ?_
    rintro e w1 ⟨rfl, hb1⟩
    have Hw1 : Hid (Below w.heap.size w w1) := by (show Below _ _ _); (repeat (first | (with_reducible exact Below.refl _ _) | (with_reducible assumption) | (with_reducible refine below_al ?_) | (with_reducible refine below_dr ?_) | (with_reducible refine below_drN ?_) | (with_reducible refine below_set ?_ (by first | exact Nat.le_refl _ | (dsimp only; omega) | omega)) | (with_reducible refine below_tr (by with_reducible assumption) ?_)))
    clear hb1
    go_wp2
    go_ret2
    exact ⟨_, rfl, by rw [HF1.out]; exact OwnII.nil _ _, Hw1.out⟩

end Go.Proofs.YtkgnejhflnekaaaGreat
