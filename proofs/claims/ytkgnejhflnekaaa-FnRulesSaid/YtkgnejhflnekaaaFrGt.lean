/- Contracts and lemmas for the statements of this seat, written for this claim; each theorem states its own conditions. -/
import Derived.ProofKit
import Derived.OpenShut
import Derived.ShutString
import Derived.ChangeOld
import Derived.Below
import Derived.SizedLaws
import Derived.Deep.Slices
import Derived.Deep.Fields
import Derived.ChangeSame
import Derived.Lib.SmallJoins
import Derived.Laws.IdiomArrays
import Derived.Carry
import Derived.Test.YtkgnejhflnekaaaFrGr
import Derived.Test.YtkgnejhflnekaaaFrOs
import Derived.Test.YtkgnejhflnekaaaFrB
set_option linter.unusedVariables false
set_option linter.unusedSimpArgs false
namespace Go.Proofs.Ytkgnejhflnekaaa
open Go.RowKit
theorem NumsIn_iff {N : Nat} {rows : List (List Int)} : NumsIn N rows ↔ ∀ r ∈ rows, ∀ x ∈ r, 0 ≤ x ∧ x < (N : Int) := by
  constructor
  · intro h r hr x hx
    obtain ⟨k, hk, rfl⟩ := List.getElem_of_mem hr
    obtain ⟨j, hj, rfl⟩ := List.getElem_of_mem hx
    exact h k hk j hj
  · intro h k hk j hj
    exact h _ (List.getElem_mem hk) _ (List.getElem_mem hj)
theorem Short_iff {n : Nat} {rows : List (List Int)} : Short n rows ↔ ∀ r ∈ rows, r.length ≤ n := by
  constructor
  · intro h r hr
    obtain ⟨k, hk, rfl⟩ := List.getElem_of_mem hr
    exact h k hk
  · intro h k hk
    exact h _ (List.getElem_mem hk)
theorem mem_grownL {L rows : List (List Int)} {r : List Int} : r ∈ grownL L rows ↔ ∃ row ∈ rows, r = gTop L row ∨ r = gBot L row := by
  unfold grownL; simp [List.mem_flatMap]
theorem grownL_nums {N : Nat} {L rows : List (List Int)} (hB : Blocks N L) (h : NumsIn N rows) : NumsIn N (grownL L rows) := by
  rw [NumsIn_iff] at *
  intro r hr x hx
  have key : ∀ i : Int, 0 ≤ i ∧ i < N → ∀ y ∈ L.getD i.toNat [], 0 ≤ y ∧ y < (N : Int) := fun i hi y hy => by
    obtain ⟨m, rfl⟩ := Int.eq_ofNat_of_zero_le hi.1
    have hm : m < L.length := by rw [hB.1]; omega
    rw [Int.toNat_natCast, show L.getD m [] = L[m] by simp [hm]] at hy
    obtain ⟨j, hj, rfl⟩ := List.getElem_of_mem hy
    exact (hB.2 m hm).2 j hj
  obtain ⟨row, hrow, rfl | rfl⟩ := mem_grownL.1 hr
  · obtain ⟨i, hi, hx⟩ := List.mem_flatMap.1 hx
    exact key i (h row hrow i hi) x (List.mem_of_mem_take hx)
  · obtain ⟨i, hi, hx⟩ := List.mem_flatMap.1 hx
    exact key i (h row hrow i hi) x (List.mem_of_mem_drop hx)
theorem grownL_short {N n : Nat} {L rows : List (List Int)} (hB : Blocks N L) (h : NumsIn N rows) (hs : Short n rows) : Short (2 * n) (grownL L rows) := by
  rw [Short_iff] at *
  rw [NumsIn_iff] at h
  intro r hr
  obtain ⟨row, hrow, e⟩ := mem_grownL.1 hr
  have hl := gTop_len hB (row := row) (fun j hj => h row hrow _ (List.getElem_mem hj))
  have := hs row hrow
  rcases e with rfl | rfl <;> omega
theorem tot_le {n : Nat} : ∀ {L : List (List Int)}, (∀ r ∈ L, r.length ≤ n) → tot L ≤ n * L.length
  | [], _ => by simp [tot]
  | r :: L, h => by
    rw [show tot (r :: L) = r.length + tot L by simp [tot], List.length_cons, Nat.mul_add]
    have h1 := h r (List.mem_cons_self ..)
    have h2 := tot_le (L := L) (fun x hx => h x (List.mem_cons_of_mem _ hx))
    omega
/-- what a call gives back that returns a new list of lists of numbers and a code -/
def RetIIC3 (w : World) (L : List (List Int)) (c : Int) (e : Ending) (w' : World) : Prop :=
  ∃ v, e = .returned (.tuple #[v, .int .i64 c]) ∧ OwnII w' w.heap.size v L ∧ Below w.heap.size w w'
theorem OwnII.one {w : World} {B g : Nat} (x : Int) (hg : w.heap.size = g) (hB : B ≤ w.heap.size) : OwnII ((w.alloc (.cells #[.int .i64 x] 2)).alloc (.cells #[.slice (some ⟨g, 0, none⟩) 1 1] 40)) B (.slice (some ⟨g + 1, 0, none⟩) 1 1) [[x]] := by
  subst hg
  refine ⟨[.slice (some ⟨w.heap.size, 0, none⟩) 1 1], ?_, fun i h h' => ?_, fun i j h h' hij => ?_, fun i h => ?_⟩
  · have := World.ownsRow_lit (base := B) (e := 40) (size := 1) (w.alloc (.cells #[.int .i64 x] 2)) #[.slice (some ⟨w.heap.size, 0, none⟩) 1 1] 1 (by simp; omega) (by simp [maxLen]) (by simp)
    simpa using this
  · have hi : i = 0 := by simp at h; omega
    subst hi
    exact (OwnI.made w B #[.int .i64 x] [x] rfl hB (by simp)).alloc _
  · simp at h h'; omega
  · have hi : i = 0 := by simp at h; omega
    subst hi
    exact Apart.blk (by omega)
def growAt (L : List (List Int)) (i : Int) : Nat → List (List Int)
  | 0 => [[i]]
  | k + 1 => grownL L (growAt L i k)
theorem growAt_ok {N : Nat} {L : List (List Int)} (hB : Blocks N L) {i : Int} (h0 : 0 ≤ i) (h1 : i < N) : ∀ k, NumsIn N (growAt L i k) ∧ Short (2 ^ k) (growAt L i k) ∧ (growAt L i k).length = 2 ^ k
  | 0 => ⟨NumsIn_iff.2 (by simp [growAt]; omega), Short_iff.2 (by simp [growAt]), rfl⟩
  | k + 1 => by
    obtain ⟨a, b, c⟩ := growAt_ok hB h0 h1 k
    refine ⟨grownL_nums hB a, ?_, ?_⟩
    · have := grownL_short hB a b
      rwa [← Nat.pow_succ'] at this
    · show (grownL L (growAt L i k)).length = _
      rw [grownL_len, c, Nat.pow_succ']
def growCode (c : Int) (ts : List T4) (L : List (List Int)) (i n : Int) : Int := codeB (isSetB c ts) (stepB ts.length L i n 3)
def growV (c : Int) (ts : List T4) (L : List (List Int)) (i n : Int) : List (List Int) := if growCode c ts L i n = 0 then growAt L i n.toNat else []
theorem growV_len (c : Int) (ts : List T4) (L : List (List Int)) (i n : Int) : (growV c ts L i n).length ≤ 8 ∧ Short 1000000000 (growV c ts L i n) ∧ tot (growV c ts L i n) ≤ 64 := by
  unfold growV
  split
  · rename_i h
    obtain ⟨h1, h2⟩ := codeB_zero h
    obtain ⟨hB, ⟨i0, i1⟩, n0, n1⟩ := stepB_parts h2
    obtain ⟨m, rfl⟩ := Int.eq_ofNat_of_zero_le n0
    rw [Int.toNat_natCast]
    have hm : m ≤ 3 := by omega
    obtain ⟨_, b, c⟩ := growAt_ok hB i0 i1 m
    have hp : 2 ^ m ≤ 8 := Nat.pow_le_pow_right (by omega) hm
    have hsb := Short_iff.1 b
    have ht := tot_le hsb
    rw [c] at ht ⊢
    refine ⟨hp, Short_iff.2 (fun r hr => by have := hsb r hr; omega), Nat.le_trans ht (Nat.mul_le_mul hp hp)⟩
  · exact ⟨by simp, fun k hk => by simp at hk, by simp [tot]⟩
set_option maxRecDepth 100000 in
set_option maxHeartbeats 1000000 in
theorem specGrowTile_c (c : Int) (ts : List T4) (A : Option Addr) (cx : Nat) (L : List (List Int)) (B : Option Addr) (cr : Nat) (i n : Int) (w : World) (hT : TileCells w A ts) (hl : ts.length ≤ 1000000000) (hR : RowsC w B L) (hn : L.length ≤ 1000000000) (hS : Short 1000000000 L)  :
    Calls Try.prog 21 #[.agg #[.int .i64 c, .slice A ts.length cx], .slice B L.length cr, .int .i64 i, .int .i64 n] w (RetIIC3 w (growV c ts L i n) (growCode c ts L i n)) := by
  have HC := Lib.hid (fun (wq : World) (hq : Below w.heap.size w wq) => l09Tile_c c ts A cx L B cr i n 3 wq (hT.below hq) hl (hR.below hq) hn hS)
  have HG := Lib.hid (fun (rows : List (List Int)) (R : Option Addr) (cR : Nat) (wq : World) (hq : Below w.heap.size w wq) (hB : Blocks ts.length L) (hM : RowsC wq R rows) (hI : NumsIn ts.length rows) (h1 : rows.length ≤ 1000) (h2 : Short 1000 rows) => l09Grow_c L B cr rows R cR ts.length wq (hR.below hq)  hB hM hI h1 h2)
  have HV : Hid (growCode c ts L i n = codeB (isSetB c ts) (stepB ts.length L i n 3)) := rfl
  have HV1 : Hid (growV c ts L i n = if growCode c ts L i n = 0 then growAt L i n.toNat else []) := rfl
  clear hT
  by_cases h0 : codeB (isSetB c ts) (stepB ts.length L i n 3) = 0
  · obtain ⟨hs, hst⟩ := codeB_zero h0
    obtain ⟨hB, ⟨i0, i1⟩, n0, n1⟩ := stepB_parts hst
    obtain ⟨m, rfl⟩ := Int.eq_ofNat_of_zero_le n0
    have HOK := Lib.hid (growAt_ok hB i0 i1)
    have HB := Lib.hid hB
    rw [h0] at HV HC
    have hc0 := HV.out
    have HF1 : Hid (growV c ts L i m = growAt L i m) := by rw [Hid, HV1.out, if_pos hc0]; rfl
    rw [hc0]
    clear hs hst hB i0 i1 h0 hc0 HV HV1 hS hR
    go_enter Try.func21, Try.ntmps21
    go_wp2_with fail
    refine (HC.out _ (by (repeat (first | (with_reducible exact Below.refl _ _) | (with_reducible assumption) | (with_reducible refine below_al ?_) | (with_reducible refine below_dr ?_) | (with_reducible refine below_drN ?_) | (with_reducible refine below_set ?_ (by first | exact Nat.le_refl _ | (dsimp only; omega) | omega)) | (with_reducible refine below_tr (by with_reducible assumption) ?_))))).mono ?_
    rintro e w1 ⟨rfl, hb1⟩
    have Hw1 : Hid (Below w.heap.size w w1) := by (show Below _ _ _); (repeat (first | (with_reducible exact Below.refl _ _) | (with_reducible assumption) | (with_reducible refine below_al ?_) | (with_reducible refine below_dr ?_) | (with_reducible refine below_drN ?_) | (with_reducible refine below_set ?_ (by first | exact Nat.le_refl _ | (dsimp only; omega) | omega)) | (with_reducible refine below_tr (by with_reducible assumption) ?_)))
    clear hb1
    go_wp2_with fail
    go_loopw [3, 11] (fun x v wr => ∃ k : Nat, k ≤ m ∧ x = .int .i64 ((m - k : Nat) : Int) ∧ OwnII wr w.heap.size v (growAt L i k) ∧ Below w.heap.size w wr) (fun x _ _ => (intOf x).toNat)
    case atStart => exact ⟨0, by omega, by simp, OwnII.one i rfl Hw1.out.size, by have h1 := Hw1.out; (repeat (first | (with_reducible exact Below.refl _ _) | (with_reducible assumption) | (with_reducible refine below_al ?_) | (with_reducible refine below_dr ?_) | (with_reducible refine below_drN ?_) | (with_reducible refine below_set ?_ (by first | exact Nat.le_refl _ | (dsimp only; omega) | omega)) | (with_reducible refine below_tr (by with_reducible assumption) ?_)))⟩
    case round =>
      obtain ⟨k, hk, rfl, hO, hb⟩ := hrel
      by_cases hkm : k < m
      · have hx : 0 < ((m - k : Nat) : Int) := by omega
        have hp : 2 ^ k ≤ 8 := Nat.pow_le_pow_right (by omega) (show k ≤ 3 by omega)
        obtain ⟨o1, o2, o3⟩ := HOK.out k
        obtain ⟨A3, cx3, rfl, hM⟩ := hO.rows
        have HX := Lib.hid (HG.out (growAt L i k) A3 cx3 wr hb HB.out hM o1 (by omega) (Short_iff.2 (fun r hr => by have := Short_iff.1 o2 r hr; omega)))
        have HGS : Hid (growAt L i (k + 1) = grownL L (growAt L i k)) := rfl
        have Hb := Lib.hid hb
        clear hO hM hb o1 o2 o3 hp
        go_wp2_with fail
        refine HX.out.mono ?_
        rintro e w2 ⟨v, rfl, hO2, hb2⟩
        have HO2 := Lib.hid hO2
        have Hb2 := Lib.hid hb2
        clear hO2 hb2
        go_wp2_with fail
        go_roundw
        case rel => exact ⟨k + 1, by omega, by go_num, by rw [HGS.out]; exact HO2.out.weaken Hb.out.size, Hb.out.trans (Hb2.out.mono Hb.out.size)⟩
        case measure => simp [intOf]; omega
      · obtain rfl : k = m := by omega
        have HO := Lib.hid hO
        have Hb := Lib.hid hb
        clear hO hb
        go_wp2
        go_ret2
        exact ⟨_, rfl, by rw [HF1.out]; exact HO.out, Hb.out⟩
  · have HF1 : Hid (growV c ts L i n = []) := by rw [Hid, HV1.out, HV.out, if_neg h0]
    rw [HV.out]
    generalize codeB (isSetB c ts) (stepB ts.length L i n 3) = d at *
    have hne : (d != 0) = true := by simpa using h0
    clear h0 hR
    go_enter Try.func21, Try.ntmps21
    go_wp2_with fail
    refine (HC.out _ (by (repeat (first | (with_reducible exact Below.refl _ _) | (with_reducible assumption) | (with_reducible refine below_al ?_) | (with_reducible refine below_dr ?_) | (with_reducible refine below_drN ?_) | (with_reducible refine below_set ?_ (by first | exact Nat.le_refl _ | (dsimp only; omega) | omega)) | (with_reducible refine below_tr (by with_reducible assumption) ?_))))).mono ?_
    rintro e w1 ⟨rfl, hb1⟩
    have Hw1 : Hid (Below w.heap.size w w1) := by (show Below _ _ _); (repeat (first | (with_reducible exact Below.refl _ _) | (with_reducible assumption) | (with_reducible refine below_al ?_) | (with_reducible refine below_dr ?_) | (with_reducible refine below_drN ?_) | (with_reducible refine below_set ?_ (by first | exact Nat.le_refl _ | (dsimp only; omega) | omega)) | (with_reducible refine below_tr (by with_reducible assumption) ?_)))
    clear hb1
    go_wp2
    go_ret2
    exact ⟨_, rfl, by rw [HF1.out]; exact OwnII.nil _ _, Hw1.out⟩
set_option maxRecDepth 100000 in
set_option maxHeartbeats 1000000 in
theorem implGrowTile_c (c : Int) (ts : List T4) (A : Option Addr) (cx : Nat) (L : List (List Int)) (B : Option Addr) (cr : Nat) (i n : Int) (w : World) (hT : TileCells w A ts) (hl : ts.length ≤ 1000000000) (hR : RowsC w B L) (hn : L.length ≤ 1000000000) (hS : Short 1000000000 L) (hK : CapsC w B L) :
    Calls Try.prog 20 #[.agg #[.int .i64 c, .slice A ts.length cx], .slice B L.length cr, .int .i64 i, .int .i64 n] w (RetIIC3 w (growV c ts L i n) (growCode c ts L i n)) := by
  have HC := Lib.hid (fun (wq : World) (hq : Below w.heap.size w wq) => stepsCode_c c ts A cx L B cr i n 3 wq (hT.below hq) hl (hR.below hq) hn hS)
  have HG := Lib.hid (fun (rows : List (List Int)) (R : Option Addr) (cR : Nat) (wq : World) (hq : Below w.heap.size w wq) (hB : Blocks ts.length L) (hM : RowsC wq R rows) (hI : NumsIn ts.length rows) (h1 : rows.length ≤ 1000) (h2 : Short 1000 rows) => grown_c L B cr rows R cR ts.length wq (hR.below hq) (hK.below hR hq) hB hM hI h1 h2)
  have HV : Hid (growCode c ts L i n = codeB (isSetB c ts) (stepB ts.length L i n 3)) := rfl
  have HV1 : Hid (growV c ts L i n = if growCode c ts L i n = 0 then growAt L i n.toNat else []) := rfl
  clear hT
  by_cases h0 : codeB (isSetB c ts) (stepB ts.length L i n 3) = 0
  · obtain ⟨hs, hst⟩ := codeB_zero h0
    obtain ⟨hB, ⟨i0, i1⟩, n0, n1⟩ := stepB_parts hst
    obtain ⟨m, rfl⟩ := Int.eq_ofNat_of_zero_le n0
    have HOK := Lib.hid (growAt_ok hB i0 i1)
    have HB := Lib.hid hB
    rw [h0] at HV HC
    have hc0 := HV.out
    have HF1 : Hid (growV c ts L i m = growAt L i m) := by rw [Hid, HV1.out, if_pos hc0]; rfl
    rw [hc0]
    clear hs hst hB i0 i1 h0 hc0 HV HV1 hS hR
    go_enter Try.func20, Try.ntmps20
    go_wp2_with fail
    refine (HC.out _ (by (repeat (first | (with_reducible exact Below.refl _ _) | (with_reducible assumption) | (with_reducible refine below_al ?_) | (with_reducible refine below_dr ?_) | (with_reducible refine below_drN ?_) | (with_reducible refine below_set ?_ (by first | exact Nat.le_refl _ | (dsimp only; omega) | omega)) | (with_reducible refine below_tr (by with_reducible assumption) ?_))))).mono ?_
    rintro e w1 ⟨rfl, hb1⟩
    have Hw1 : Hid (Below w.heap.size w w1) := by (show Below _ _ _); (repeat (first | (with_reducible exact Below.refl _ _) | (with_reducible assumption) | (with_reducible refine below_al ?_) | (with_reducible refine below_dr ?_) | (with_reducible refine below_drN ?_) | (with_reducible refine below_set ?_ (by first | exact Nat.le_refl _ | (dsimp only; omega) | omega)) | (with_reducible refine below_tr (by with_reducible assumption) ?_)))
    clear hb1
    go_wp2_with fail
    go_loopw [11, 24] (fun v x wr => ∃ k : Nat, k ≤ m ∧ x = .int .i64 k ∧ OwnII wr w.heap.size v (growAt L i k) ∧ Below w.heap.size w wr) (fun _ x _ => m - (intOf x).toNat)
    case atStart => exact ⟨0, by omega, rfl, OwnII.one i rfl Hw1.out.size, by have h1 := Hw1.out; (repeat (first | (with_reducible exact Below.refl _ _) | (with_reducible assumption) | (with_reducible refine below_al ?_) | (with_reducible refine below_dr ?_) | (with_reducible refine below_drN ?_) | (with_reducible refine below_set ?_ (by first | exact Nat.le_refl _ | (dsimp only; omega) | omega)) | (with_reducible refine below_tr (by with_reducible assumption) ?_)))⟩
    case round =>
      obtain ⟨k, hk, rfl, hO, hb⟩ := hrel
      by_cases hkm : k < m
      · skip
        have hp : 2 ^ k ≤ 8 := Nat.pow_le_pow_right (by omega) (show k ≤ 3 by omega)
        obtain ⟨o1, o2, o3⟩ := HOK.out k
        obtain ⟨A3, cx3, rfl, hM⟩ := hO.rows
        have HX := Lib.hid (HG.out (growAt L i k) A3 cx3 wr hb HB.out hM o1 (by omega) (Short_iff.2 (fun r hr => by have := Short_iff.1 o2 r hr; omega)))
        have HGS : Hid (growAt L i (k + 1) = grownL L (growAt L i k)) := rfl
        have Hb := Lib.hid hb
        clear hO hM hb o1 o2 o3 hp
        go_wp2_with fail
        refine HX.out.mono ?_
        rintro e w2 ⟨v, rfl, hO2, hb2⟩
        have HO2 := Lib.hid hO2
        have Hb2 := Lib.hid hb2
        clear hO2 hb2
        go_wp2_with fail
        go_roundw
        case rel => exact ⟨k + 1, by omega, by go_num, by rw [HGS.out]; exact HO2.out.weaken Hb.out.size, Hb.out.trans (Hb2.out.mono Hb.out.size)⟩
        case measure => simp [intOf]; omega
      · obtain rfl : k = m := by omega
        have HO := Lib.hid hO
        have Hb := Lib.hid hb
        clear hO hb
        go_wp2
        go_ret2
        exact ⟨_, rfl, by rw [HF1.out]; exact HO.out, Hb.out⟩
  · have HF1 : Hid (growV c ts L i n = []) := by rw [Hid, HV1.out, HV.out, if_neg h0]
    rw [HV.out]
    generalize codeB (isSetB c ts) (stepB ts.length L i n 3) = d at *
    have hne : (d != 0) = true := by simpa using h0
    clear h0 hR
    go_enter Try.func20, Try.ntmps20
    go_wp2_with fail
    refine (HC.out _ (by (repeat (first | (with_reducible exact Below.refl _ _) | (with_reducible assumption) | (with_reducible refine below_al ?_) | (with_reducible refine below_dr ?_) | (with_reducible refine below_drN ?_) | (with_reducible refine below_set ?_ (by first | exact Nat.le_refl _ | (dsimp only; omega) | omega)) | (with_reducible refine below_tr (by with_reducible assumption) ?_))))).mono ?_
    rintro e w1 ⟨rfl, hb1⟩
    have Hw1 : Hid (Below w.heap.size w w1) := by (show Below _ _ _); (repeat (first | (with_reducible exact Below.refl _ _) | (with_reducible assumption) | (with_reducible refine below_al ?_) | (with_reducible refine below_dr ?_) | (with_reducible refine below_drN ?_) | (with_reducible refine below_set ?_ (by first | exact Nat.le_refl _ | (dsimp only; omega) | omega)) | (with_reducible refine below_tr (by with_reducible assumption) ?_)))
    clear hb1
    go_wp2
    go_ret2
    exact ⟨_, rfl, by rw [HF1.out]; exact OwnII.nil _ _, Hw1.out⟩

end Go.Proofs.Ytkgnejhflnekaaa
namespace Go.Proofs.Ytkgnejhflnekaaa
open Go.RowKit
theorem infoBool : (Try.prog.info? 4).map (fun i => (i.zero, i.size, i.bytes)) = some (some (.bool false), 1, 1) := by kernel_rfl
def bools (xs : List Bool) : List Value := xs.map fun x => .bool x
theorem bools_length (xs : List Bool) : (bools xs).length = xs.length := by simp [bools]
theorem bools_set (xs : List Bool) (k : Nat) (x : Bool) : (bools xs).set k (.bool x) = bools (xs.set k x) := by simp [bools, List.map_set]
theorem Blk.bool {w : World} {b : Nat} {xs : List Bool} {T : TypeId} (h : Blk w b (bools xs) T) (k : Nat) (hk : k < xs.length) : w.cell? ⟨b, k, none⟩ = some (.bool xs[k]) := by
  rw [h.cell k (by rw [bools_length]; exact hk)]; simp [bools]
theorem Blk.setBool {w : World} {b : Nat} {xs : List Bool} {T : TypeId} (h : Blk w b (bools xs) T) (k : Nat) (x : Bool) : Blk (w.setCell ⟨b, k, none⟩ (.bool x)) b (bools (xs.set k x)) T := by
  rw [← bools_set]; exact h.set k _
/-- which tiles were met, and the list of those that still are to be looked at -/
structure Met where
  met : List Bool
  list : List Int
def metOne (s : Met) (j : Int) : Met := if s.met.getD j.toNat false = true then s else ⟨s.met.set j.toNat true, s.list ++ [j]⟩
def metRow (row : List Int) (s : Met) (m : Nat) : Met := (row.take m).foldl metOne s
def metStep (L : List (List Int)) (s : Met) (k : Nat) : Met := metRow (L.getD (s.list.getD k 0).toNat []) s 4
def metTo (L : List (List Int)) (i : Int) : Nat → Met
  | 0 => ⟨(List.replicate L.length false).set i.toNat true, [i]⟩
  | k + 1 => metStep L (metTo L i k) k
theorem metRow_succ {row : List Int} {s : Met} {m : Nat} (h : m < row.length) : metRow row s (m + 1) = metOne (metRow row s m) row[m] := by
  unfold metRow; rw [List.take_succ_eq_append_getElem h, List.foldl_append]; rfl
theorem metRow_zero (row : List Int) (s : Met) : metRow row s 0 = s := by simp [metRow]
/-- what holds of all that is met: the list has each tile that was met, once -/
theorem getB_self {xs : List Bool} {m : Nat} (h : m < xs.length) : (xs.set m true).getD m false = true := by simp [h]
theorem getB_ne {xs : List Bool} {m k : Nat} (h : m ≠ k) : (xs.set m true).getD k false = xs.getD k false := by simp [List.getElem?_set_ne h]
def MetOk (N : Nat) (s : Met) : Prop := s.met.length = N ∧ (∀ x ∈ s.list, 0 ≤ x ∧ x < (N : Int) ∧ s.met.getD x.toNat false = true) ∧ s.list.Nodup
theorem metOne_ok {N : Nat} {s : Met} (h : MetOk N s) {j : Int} (j0 : 0 ≤ j) (j1 : j < N) : MetOk N (metOne s j) := by
  obtain ⟨h1, h2, h3⟩ := h
  obtain ⟨m, rfl⟩ := Int.eq_ofNat_of_zero_le j0
  have hm : m < N := by omega
  unfold metOne
  split
  · exact ⟨h1, h2, h3⟩
  · rename_i hf
    refine ⟨by simpa using h1, fun x hx => ?_, ?_⟩
    · rcases List.mem_append.1 hx with hx | hx
      · obtain ⟨a, b, c⟩ := h2 x hx
        refine ⟨a, b, ?_⟩
        rw [Int.toNat_natCast]
        by_cases e : m = x.toNat
        · rw [← e]; exact getB_self (by omega)
        · rw [getB_ne e]; exact c
      · simp at hx; subst hx
        exact ⟨by omega, by omega, getB_self (by rw [Int.toNat_natCast]; omega)⟩
    · rw [List.nodup_append]
      refine ⟨h3, by simp, fun x hx y hy => ?_⟩
      simp at hy; subst hy
      intro e; subst e
      exact hf (h2 _ hx).2.2
theorem metRow_ok {N : Nat} {row : List Int} {s : Met} (h : MetOk N s) (hr : ∀ j (hj : j < row.length), 0 ≤ row[j] ∧ row[j] < N) : ∀ m, m ≤ row.length → MetOk N (metRow row s m)
  | 0, _ => by rw [metRow_zero]; exact h
  | m + 1, hm => by
    rw [metRow_succ (by omega)]
    exact metOne_ok (metRow_ok h hr m (by omega)) (hr m (by omega)).1 (hr m (by omega)).2
theorem nodup_pigeon {N : Nat} {l : List Int} (h : l.Nodup) (hr : ∀ x ∈ l, 0 ≤ x ∧ x < (N : Int)) : l.length ≤ N := by
  refine pigeon N (fun k => l.getD k 0) l.length (fun a ha => ?_) (fun a b hab hb => ?_)
  · rw [show l.getD a 0 = l[a] by simp [ha]]; exact hr _ (List.getElem_mem ha)
  · have ha : a < l.length := by omega
    rw [show l.getD a 0 = l[a] by simp [ha], show l.getD b 0 = l[b] by simp [hb]]
    exact fun e => (List.pairwise_iff_getElem.1 h) a b ha hb hab e
theorem MetOk.len {N : Nat} {s : Met} (h : MetOk N s) : s.list.length ≤ N := nodup_pigeon h.2.2 (fun x hx => ⟨(h.2.1 x hx).1, (h.2.1 x hx).2.1⟩)
theorem metOne_len (s : Met) (j : Int) : s.list.length ≤ (metOne s j).list.length := by unfold metOne; split <;> simp
theorem metRow_len (row : List Int) (s : Met) (m : Nat) : s.list.length ≤ (metRow row s m).list.length := by
  unfold metRow
  generalize row.take m = l
  induction l generalizing s with
  | nil => exact Nat.le_refl _
  | cons x l ih => rw [List.foldl_cons]; exact Nat.le_trans (metOne_len s x) (ih _)
theorem metOne_pre (s : Met) (j : Int) : ∃ t, (metOne s j).list = s.list ++ t := by unfold metOne; split; exact ⟨[], by simp⟩; exact ⟨[j], rfl⟩
theorem metRow_pre (row : List Int) (s : Met) (m : Nat) : ∃ t, (metRow row s m).list = s.list ++ t := by
  unfold metRow
  generalize row.take m = l
  induction l generalizing s with
  | nil => exact ⟨[], by simp⟩
  | cons x l ih =>
    rw [List.foldl_cons]
    obtain ⟨t, ht⟩ := ih (metOne s x)
    obtain ⟨u, hu⟩ := metOne_pre s x
    exact ⟨u ++ t, by rw [ht, hu, List.append_assoc]⟩
def PreEnd (L : List (List Int)) (i : Int) (k : Nat) : Prop := ∀ j, j < k → j < (metTo L i j).list.length
def IsEnd (L : List (List Int)) (i : Int) (k : Nat) : Prop := PreEnd L i k ∧ (metTo L i k).list.length ≤ k
theorem IsEnd.uniq {L : List (List Int)} {i : Int} {k k' : Nat} (h : IsEnd L i k) (h' : IsEnd L i k') : k = k' := by
  rcases Nat.lt_trichotomy k k' with hh | hh | hh
  · have := h'.1 k hh; have := h.2; omega
  · exact hh
  · have := h.1 k' hh; have := h'.2; omega
noncomputable def endOf (L : List (List Int)) (i : Int) : Nat := open Classical in if h : ∃ k, IsEnd L i k then h.choose else 0
theorem endOf_eq {L : List (List Int)} {i : Int} {k : Nat} (h : IsEnd L i k) : endOf L i = k := by
  have he : ∃ k, IsEnd L i k := ⟨k, h⟩
  unfold endOf
  rw [dif_pos he]
  exact he.choose_spec.uniq h
noncomputable def metV (L : List (List Int)) (i : Int) : List Bool := (metTo L i (endOf L i)).met
theorem metTo_ok {N : Nat} {L : List (List Int)} (hB : Blocks N L) {i : Int} (h0 : 0 ≤ i) (h1 : i < N) : ∀ k, PreEnd L i k → MetOk N (metTo L i k)
  | 0, _ => by
    obtain ⟨m, rfl⟩ := Int.eq_ofNat_of_zero_le h0
    refine ⟨by simp [metTo, hB.1], fun x hx => ?_, by simp [metTo]⟩
    simp [metTo] at hx; subst hx
    exact ⟨by omega, h1, getB_self (by simp [hB.1]; omega)⟩
  | k + 1, hp => by
    have ih := metTo_ok hB h0 h1 k (fun j hj => hp j (by omega))
    have hk := hp k (by omega)
    obtain ⟨a, b, _⟩ := ih.2.1 _ (List.getElem_mem hk)
    obtain ⟨m, hm⟩ := Int.eq_ofNat_of_zero_le a
    have hmL : m < L.length := by rw [hB.1]; omega
    have h4 := (hB.2 m hmL)
    show MetOk N (metStep L (metTo L i k) k)
    unfold metStep
    rw [show (metTo L i k).list.getD k 0 = (metTo L i k).list[k] by simp [hk], hm, Int.toNat_natCast, show L.getD m [] = L[m] by simp [hmL]]
    exact metRow_ok ih h4.2 4 (by rw [h4.1]; omega)
theorem metTo_step {N : Nat} {L : List (List Int)} (hB : Blocks N L) {i : Int} (h0 : 0 ≤ i) (h1 : i < N) {k : Nat} (hp : PreEnd L i k) (hk : k < (metTo L i k).list.length) :
    ∃ m, ∃ h : m < L.length, (metTo L i k).list[k] = (m : Int) ∧ metTo L i (k + 1) = metRow L[m] (metTo L i k) 4 := by
  obtain ⟨a, b, _⟩ := (metTo_ok hB h0 h1 k hp).2.1 _ (List.getElem_mem hk)
  obtain ⟨m, hm⟩ := Int.eq_ofNat_of_zero_le a
  have hmL : m < L.length := by rw [hB.1]; omega
  refine ⟨m, hmL, hm, ?_⟩
  show metStep L (metTo L i k) k = _
  unfold metStep
  rw [show (metTo L i k).list.getD k 0 = (metTo L i k).list[k] by simp [hk], hm, Int.toNat_natCast, show L.getD m [] = L[m] by simp [hmL]]
theorem Blk.grown {w w' : World} {b : Nat} {cs : List Value} {T : TypeId} {row : Option Nat} (h : Blk w b cs T) (hg : w.grownBy w' row) (hne : some b ≠ row) : Blk w' b cs T := by
  obtain ⟨_, _, _, _, g5⟩ := hg
  exact (g5 b h.lt hne).trans h
theorem made_bools (n j : Nat) : ((madeCells #[Value.bool false] n).setIfInBounds j (.bool true)).toList = bools ((List.replicate n false).set j true) := by
  rw [Array.toList_setIfInBounds, toList_madeCells_one, ← bools_set]; simp [bools]
theorem made_bools0 (n : Nat) : (madeCells #[Value.bool false] n).toList = bools (List.replicate n false) := by
  rw [toList_madeCells_one]; simp [bools]
def tgTo (met : List Bool) (k : Nat) : List Int := ((List.range k).filter fun j => met.getD j false).map fun (j : Nat) => (j : Int)
theorem tgTo_succ (met : List Bool) (k : Nat) : tgTo met (k + 1) = tgTo met k ++ (if met.getD k false = true then [(k : Int)] else []) := by
  unfold tgTo; rw [List.range_succ, List.filter_append, List.map_append]
  cases h : met.getD k false <;> simp [List.filter_cons, h] <;> simp_all
theorem tgTo_len (met : List Bool) (k : Nat) : (tgTo met k).length ≤ k := by
  unfold tgTo; rw [List.length_map]
  exact Nat.le_trans (List.length_filter_le _ _) (by simp)
def tgCode (c : Int) (ts : List T4) (L : List (List Int)) (i : Int) : Int := codeB (isSetB c ts) (stepB ts.length L i 0 0)
noncomputable def tgV (c : Int) (ts : List T4) (L : List (List Int)) (i : Int) : List Int := if tgCode c ts L i = 0 then tgTo (metV L i) L.length else []
theorem tgV_len (c : Int) (ts : List T4) (L : List (List Int)) (i : Int) : (tgV c ts L i).length ≤ 1000000 := by
  unfold tgV
  split
  · rename_i h
    obtain ⟨h1, h2⟩ := codeB_zero h
    obtain ⟨hB, _⟩ := stepB_parts h2
    have := tgTo_len (metV L i) L.length
    have := (isSetB_small h1).2
    have := hB.1
    omega
  · simp
end Go.Proofs.Ytkgnejhflnekaaa
namespace Go.Proofs.Ytkgnejhflnekaaa
open Go.RowKit
theorem laidB : laidOutB Try.prog = true := by kernel_rfl
theorem ownKnobF : ownKnob Try.prog.godebug = none := by kernel_rfl
theorem cellsInt : Try.prog.cellsOf 2 = 1 := by kernel_rfl
end Go.Proofs.Ytkgnejhflnekaaa
